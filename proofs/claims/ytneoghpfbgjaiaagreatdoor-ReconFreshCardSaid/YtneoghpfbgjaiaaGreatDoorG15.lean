/- A part of the proof of the law ReconFresh. CONDITIONS: those that each theorem names. -/
import Derived.Test.YtneoghpfbgjaiaaGreatDoorG14
namespace Go.Proofs.YtneoghpfbgjaiaaGreatDoor
open Go Go.Ai
set_option maxRecDepth 100000

noncomputable def K9f : FuncId → List AV → St → Outs := fun f args s => match f, args with
  | 76, [a, .fn (.func 77) [] [.ptr kx 0]] => match lstOf s.h ksW a, rdAB (hget s.h kx) 0 1 with
    | some L, some [.str key] => some [.val (.bool (dec (hasP key L))) s]
    | _, _ => none
  | f, args => K8f f args s
noncomputable def K9 : CallF := ⟨K9f, fun _ _ _ => none⟩
theorem k9_fn (f : FuncId) (args : List AV) (s : St) : CallF.fn K9 f args s = K9f f args s := rfl
theorem k9_ok : KOK Tryz.prog [] K9 := KOK.table fun f args s outs h => by
  obtain ⟨h0, F⟩ := s
  unfold K9f at h
  split at h
  · split at h
    · rename_i h1 h2; cases h; exact contains76 _ _ _ _ (lstOf_p h1) _ _ h2
    · cases h
  · exact k8_ok.fn _ _ _ _ h

def meets (l : List AV) (W : List (List AV)) : Prop := ∃ m, ∃ hm : m < W.length, sameKey l W[m]
theorem meets_iff {s0 : List UInt8} {r : List AV} {W : List (List AV)} : hasP s0 W ↔ meets (.str s0 :: r) W := by
  constructor
  · rintro ⟨l, hl, hk⟩
    obtain ⟨m, hm, rfl⟩ := List.getElem_of_mem hl
    exact ⟨m, hm, by unfold sameKey; rw [hk]; rfl⟩
  · rintro ⟨m, hm, hk⟩
    exact ⟨W[m], List.getElem_mem hm, hk.symm⟩

theorem touched24 (h : Heap) (F : Nat) (c1 c2 c3 c4 c5 c6 c7 re : AV) (R : List (List AV)) (hR : LstP h ksI re R) (a2 : AV) (W : List (List AV)) (hW : LstP h ksW a2 W) : Snd Tryz.prog [] 24 [.agg [c1, c2, c3, c4, c5, c6, c7, re], a2] ⟨h, F⟩ [.val (.bool (dec (touchP R W))) ⟨h, F⟩] := by
  have mxl : maxLen = 9223372036854775807 := by decide
  refine snd_val (by simp [Kin]) fun hw => ?_
  have hs := hR.len
  refine sndQ_body (K := K9) k9_ok mixed noNum (m := R.length + 1) Tryz.func24 ?_
  generalize hQ : retQ _ _ _ _ _ _ = Q0
  refine body_go (c := Tryz.f24.body.getD .skip) (n := 18) rfl rfl (by simp only [↓reduceIte, T.setList, T.set_e, T.set_n, Nat.reduceDiv, Nat.reduceMod, Nat.reduceEqDiff, Nat.zero_add] <;> rfl) ?_
  simp only [Tryz.f24, Option.getD_some]
  repeat' (first
  | with_reducible refine r_seq ?_
  | with_reducible refine r_next ?_
  | with_reducible refine r_block ?_
  | with_reducible refine r_seq_exit ?_
  | with_reducible refine r_seq_ret ?_
  | with_reducible refine r_blk_n ?_
  | with_reducible refine r_blk_ret ?_
  | with_reducible refine r_blk_hit ?_
  | with_reducible refine r_blk_miss rfl ?_
  | with_reducible refine r_skip ?_
  | with_reducible refine r_exit ?_
  | with_reducible refine r_ret ?_
  | with_reducible refine r_rq_exit ?_
  | with_reducible refine r_rq_ret ?_
  | ((with_reducible apply r_regA); (focus (simp only [List.append_eq, List.cons_append, List.nil_append] <;> rfl)); (focus (first | exact Nat.le_of_ble_eq_true rfl | (simp only [List.length_cons, List.length_nil]; omega))))
  | ((with_reducible refine r_reg (List.toList_toArray) ?_ ?_); focus (first | exact Nat.le_of_ble_eq_true rfl | (simp only [List.length_cons, List.length_nil]; omega)))
  | ((with_reducible apply r_end); focus (simp only [Nat.reduceAdd, Nat.zero_add] <;> rfl))
  | ((with_reducible (first | apply r_any | apply r_cond)); focus (simp only [↓reduceIte, clsOf, clsCall, newBlk, allocOp, Fr.ev, ofV, ofA, ofS, nVar, AV.cells, rowOf_mk, put_mk, upd_mk, keyOf_mk, pureOp, readOp, pFA, pFA1, pFA2, rLd, rdAB_row, oneCell_one, hget_same, List.length_cons, List.length_nil, List.getElem?_cons_zero, List.getElem?_cons_succ, List.drop_zero, List.drop_succ_cons, List.take_succ_cons, List.take_zero, Nat.zero_add, Nat.add_zero, Nat.reduceAdd, Nat.reduceLT, Nat.reduceLeDiff, Nat.reduceEqDiff, Nat.reduceSub, Nat.add_eq, loadA_w, loadW_s, stepOp, stV_mk, stB_mk, T.get_n, T.set_n, T.set_e, Nat.reduceDiv, Nat.reduceMod, sz27, ag27, Tryz.underlying43, stepAny, wantedA_none, rCall, rLen, rLen1_L Tryz.underlying27 hR] <;> rfl))
  | (with_reducible rw [ifQ_t])
  | (with_reducible rw [ifQ_f])
  | (with_reducible refine ifQ_intro ?_ ?_ <;> intro hb))
  · refine r_loop (I := fun nn fr s1 => ∃ lc tt h1 i, fr = ⟨F, lc, 18, tt, [], .no⟩ ∧ s1 = ⟨h1, F + 1⟩ ∧ i ≤ R.length ∧ nn = R.length - i ∧ 2 ≤ lc ∧ lc + nn * 1000 ≤ 100000000000000000000000000 ∧ SameH h h1 ∧ tt.get 1 = some (a2) ∧ tt.get 2 = some (.ptr (ky F 0) 0) ∧ tt.get 8 = some (re) ∧ tt.get 9 = some (.int .i64 R.length) ∧ tt.get 10 = some (.int .i64 i) ∧ hget h1 (ky F 0) = some (mkRow [c1, c2, c3, c4, c5, c6, c7, re] 0) ∧ (∀ j (hj : j < i) (hjl : j < R.length), ¬ meets R[j] W)) (n := R.length) ?_ ?_ ?_
    · omega
    · exact ⟨_, _, _, 0, rfl, rfl, Nat.zero_le _, (Nat.sub_zero _).symm, by first | omega | exact Nat.le_of_ble_eq_true rfl, by omega, (by repeat (first | exact SameH.refl _ | refine SameH.hset hw ?_ (ky_le _ _))), (by first | rfl | (simp only [Nat.reduceLT, Tget_set, T.get_n, T.get_e, Nat.reduceEqDiff, Nat.reduceDiv, Nat.reduceMod, Nat.reduceSub, ↓reduceIte, if_true, if_false, hget_same, hget_hset_ite, ky_inj, Nat.reduceAdd, Nat.zero_add, rLen1_L Tryz.underlying27 hR] <;> rfl)), (by first | rfl | (simp only [Nat.reduceLT, Tget_set, T.get_n, T.get_e, Nat.reduceEqDiff, Nat.reduceDiv, Nat.reduceMod, Nat.reduceSub, ↓reduceIte, if_true, if_false, hget_same, hget_hset_ite, ky_inj, Nat.reduceAdd, Nat.zero_add, rLen1_L Tryz.underlying27 hR] <;> rfl)), (by first | rfl | (simp only [Nat.reduceLT, Tget_set, T.get_n, T.get_e, Nat.reduceEqDiff, Nat.reduceDiv, Nat.reduceMod, Nat.reduceSub, ↓reduceIte, if_true, if_false, hget_same, hget_hset_ite, ky_inj, Nat.reduceAdd, Nat.zero_add, rLen1_L Tryz.underlying27 hR] <;> rfl)), (by first | rfl | (simp only [Nat.reduceLT, Tget_set, T.get_n, T.get_e, Nat.reduceEqDiff, Nat.reduceDiv, Nat.reduceMod, Nat.reduceSub, ↓reduceIte, if_true, if_false, hget_same, hget_hset_ite, ky_inj, Nat.reduceAdd, Nat.zero_add, rLen1_L Tryz.underlying27 hR] <;> rfl)), (by first | rfl | (simp only [Nat.reduceLT, Tget_set, T.get_n, T.get_e, Nat.reduceEqDiff, Nat.reduceDiv, Nat.reduceMod, Nat.reduceSub, ↓reduceIte, if_true, if_false, hget_same, hget_hset_ite, ky_inj, Nat.reduceAdd, Nat.zero_add, rLen1_L Tryz.underlying27 hR] <;> rfl)), (by first | rfl | (simp only [hget_same] <;> rfl)), fun j hj => absurd hj (Nat.not_lt_zero _)⟩
    rintro nn fr s1 ⟨lc, tt, h1, i, rfl, rfl, hi, rfl, hl0, hlc, hS, ht1, ht2, ht8, ht9, ht10, hc0, hI⟩
    by_cases hil : i < R.length
    · obtain ⟨b, o, eo, cap, s0, k0, n0, t0, rfl, hb0, hLi, hsl, htl, r0, r1, r3⟩ := item_at hw hR hS hil
      repeat' (first
      | with_reducible refine r_seq ?_
      | with_reducible refine r_next ?_
      | with_reducible refine r_block ?_
      | with_reducible refine r_seq_exit ?_
      | with_reducible refine r_seq_ret ?_
      | with_reducible refine r_blk_n ?_
      | with_reducible refine r_blk_ret ?_
      | with_reducible refine r_blk_hit ?_
      | with_reducible refine r_blk_miss rfl ?_
      | with_reducible refine r_skip ?_
      | with_reducible refine r_exit ?_
      | with_reducible refine r_ret ?_
      | with_reducible refine r_rq_exit ?_
      | with_reducible refine r_rq_ret ?_
      | ((with_reducible apply r_regA); (focus (simp only [List.append_eq, List.cons_append, List.nil_append] <;> rfl)); (focus (first | exact Nat.le_of_ble_eq_true rfl | (simp only [List.length_cons, List.length_nil]; omega))))
      | ((with_reducible refine r_reg (List.toList_toArray) ?_ ?_); focus (first | exact Nat.le_of_ble_eq_true rfl | (simp only [List.length_cons, List.length_nil]; omega)))
      | ((with_reducible apply r_end); focus (simp only [Nat.add_assoc, Nat.reduceAdd, Nat.zero_add] <;> rfl))
      | ((with_reducible (first | apply r_any | apply r_cond)); focus (simp only [↓reduceIte, clsOf, clsCall, newBlk, allocOp, Fr.ev, evs, ofV, ofA, ofS, nVar, AV.cells, rowOf_mk, put_mk, put_none, upd_mk, keyOf_mk, pureOp, readOp, rLd, rdAB_row, someAgg_s, hget_same, pBin, binA, intOp_lss, List.length_cons, List.length_nil, List.drop_zero, List.take_succ_cons, List.take_zero, Nat.zero_add, Nat.reduceAdd, Nat.reduceLT, Nat.reduceLeDiff, Nat.reduceEqDiff, and_self, loadA_w, loadW_a, aSt_w, stOut_s, wrAB_row, ovr, List.set_cons_zero, List.set_cons_succ, allCell, isCell, callTo_s, heavyCall, target, actOp, List.nil_append, List.append_nil, pMkF, binA, stepOp, stHeavy, stV_mk, stB_mk, stO_mk, sz117, ag117, zr117, stepAny, wantedA_none, K9f, k9_fn, Tget_set, ht1, ht8, ht9, ht10, lt_t hil, pIA_s Tryz.underlying27 sz117 hil, r0, intOp_add (inR_succ hil hs), lstOf_same hW, hS, sameS hw] <;> rfl))
      | (with_reducible rw [ifQ_t])
      | (with_reducible rw [ifQ_f])
      | (with_reducible refine ifQ_intro ?_ ?_ <;> intro hb))
      · have hm : meets R[i] W := by rw [hLi]; exact meets_iff.1 (dec_iff.1 hb)
        subst hQ
        refine ret_back (by simp only [Tryz.results24, resultOf, resultsA, resultA, List.toList_toArray, Fr.ev, Tget_set, ↓reduceIte] <;> rfl) ⟨_, out_t ?_, ?_⟩
        · exact ⟨i, hil, hm⟩
        repeat (first | exact Same.base _ _ _ | exact hS | refine Same.hset hw ?_ (ky_le _ _))
      · have hm : ¬ meets R[i] W := fun hm => by rw [hLi] at hm; rw [dec_t (meets_iff.2 hm)] at hb; cases hb
        refine r_rq_n (k := R.length - (i + 1)) (by omega) ⟨_, _, _, i + 1, rfl, rfl, by omega, rfl, by omega, by omega, (by repeat (first | exact hS | refine SameH.hset hw ?_ (ky_le _ _))), (by simp only [Tget_set, Nat.reduceEqDiff, ↓reduceIte, Tget_set, ht1] <;> rfl), (by simp only [Tget_set, Nat.reduceEqDiff, ↓reduceIte, Tget_set, ht2] <;> rfl), (by simp only [Tget_set, Nat.reduceEqDiff, ↓reduceIte, Tget_set, ht8] <;> rfl), (by simp only [Tget_set, Nat.reduceEqDiff, ↓reduceIte, Tget_set, ht9] <;> rfl), (by simp only [Tget_set, ↓reduceIte, Tget_set] <;> rfl), (by simp only [Nat.reduceEqDiff, ↓reduceIte, hget_hset_ite, ky_inj, hc0] <;> rfl), fun j hj hjl => by rcases Nat.lt_or_ge j i with hji | hji; exact hI j hji hjl; obtain rfl : j = i := (by omega); exact hm⟩
    · have hend : i = R.length := by omega
      repeat' (first
      | with_reducible refine r_seq ?_
      | with_reducible refine r_next ?_
      | with_reducible refine r_block ?_
      | with_reducible refine r_seq_exit ?_
      | with_reducible refine r_seq_ret ?_
      | with_reducible refine r_blk_n ?_
      | with_reducible refine r_blk_ret ?_
      | with_reducible refine r_blk_hit ?_
      | with_reducible refine r_blk_miss rfl ?_
      | with_reducible refine r_skip ?_
      | with_reducible refine r_exit ?_
      | with_reducible refine r_ret ?_
      | with_reducible refine r_rq_exit ?_
      | with_reducible refine r_rq_ret ?_
      | ((with_reducible apply r_regA); (focus (simp only [List.append_eq, List.cons_append, List.nil_append] <;> rfl)); (focus (first | exact Nat.le_of_ble_eq_true rfl | (simp only [List.length_cons, List.length_nil]; omega))))
      | ((with_reducible refine r_reg (List.toList_toArray) ?_ ?_); focus (first | exact Nat.le_of_ble_eq_true rfl | (simp only [List.length_cons, List.length_nil]; omega)))
      | ((with_reducible apply r_end); focus (simp only [Nat.add_assoc, Nat.reduceAdd, Nat.zero_add] <;> rfl))
      | ((with_reducible (first | apply r_any | apply r_cond)); focus (simp only [↓reduceIte, clsOf, Fr.ev, ofV, ofA, ofS, put_mk, pureOp, pBin, binA, intOp_lss, Nat.reduceLT, binA, stepOp, stV_mk, stepAny, wantedA_none, Tget_set, ht9, ht10, lt_f hil] <;> rfl))
      | (with_reducible rw [ifQ_t])
      | (with_reducible rw [ifQ_f])
      | (with_reducible refine ifQ_intro ?_ ?_ <;> intro hb))
      · subst hQ
        refine ret_back (by simp only [Tryz.results24, resultOf, resultsA, resultA, List.toList_toArray, Fr.ev, Tget_set, ↓reduceIte] <;> rfl) ⟨_, out_f ?_, ?_⟩
        · rintro ⟨j, hj, hm⟩; exact hI j (by omega) hj hm
        repeat (first | exact Same.base _ _ _ | exact hS | refine Same.hset hw ?_ (ky_le _ _))

set_option maxHeartbeats 1000000 in
theorem touched25 (h : Heap) (F : Nat) (c1 c2 c3 c4 c5 c6 c7 re : AV) (R : List (List AV)) (hR : LstP h ksI re R) (a2 : AV) (W : List (List AV)) (hW : LstP h ksW a2 W) (hR5 : R.length ≤ 1000) (hW5 : W.length ≤ 1000) : Snd Tryz.prog [] 25 [.agg [c1, c2, c3, c4, c5, c6, c7, re], a2] ⟨h, F⟩ [.val (.bool (dec (touchP R W))) ⟨h, F⟩] := by
  have mxl : maxLen = 9223372036854775807 := by decide
  refine snd_val (by simp [Kin]) fun hw => ?_
  have hsR := hR.len
  have hsW := hW.len
  refine sndQ_body (K := K0) kok0 mixed noNum (m := 1001) Tryz.func25 ?_
  generalize hQ : retQ _ _ _ _ _ _ = Q0
  refine body_go (c := Tryz.f25.body.getD .skip) (n := 32) rfl rfl (by simp only [↓reduceIte, T.setList, T.set_e, T.set_n, Nat.reduceDiv, Nat.reduceMod, Nat.reduceEqDiff, Nat.zero_add] <;> rfl) ?_
  simp only [Tryz.f25, Option.getD_some]
  repeat' (first
  | with_reducible refine r_seq ?_
  | with_reducible refine r_next ?_
  | with_reducible refine r_block ?_
  | with_reducible refine r_seq_exit ?_
  | with_reducible refine r_seq_ret ?_
  | with_reducible refine r_blk_n ?_
  | with_reducible refine r_blk_ret ?_
  | with_reducible refine r_blk_hit ?_
  | with_reducible refine r_blk_miss rfl ?_
  | with_reducible refine r_skip ?_
  | with_reducible refine r_exit ?_
  | with_reducible refine r_ret ?_
  | with_reducible refine r_rq_exit ?_
  | with_reducible refine r_rq_ret ?_
  | ((with_reducible apply r_regA); (focus (simp only [List.append_eq, List.cons_append, List.nil_append] <;> rfl)); (focus (first | exact Nat.le_of_ble_eq_true rfl | (simp only [List.length_cons, List.length_nil]; omega))))
  | ((with_reducible refine r_reg (List.toList_toArray) ?_ ?_); focus (first | exact Nat.le_of_ble_eq_true rfl | (simp only [List.length_cons, List.length_nil]; omega)))
  | ((with_reducible apply r_end); focus (simp only [Nat.reduceAdd, Nat.zero_add] <;> rfl))
  | ((with_reducible (first | apply r_any | apply r_cond)); focus (simp only [↓reduceIte, clsOf, newBlk, allocOp, Fr.ev, ofV, ofA, ofS, nVar, AV.cells, rowOf_mk, put_mk, upd_mk, keyOf_mk, pureOp, Nat.add_zero, Nat.reduceLT, Nat.reduceEqDiff, Nat.reduceSub, stepOp, stV_mk, stB_mk, T.get_n, T.set_n, T.set_e, Nat.reduceDiv, Nat.reduceMod, stepAny, wantedA_none] <;> rfl))
  | (with_reducible rw [ifQ_t])
  | (with_reducible rw [ifQ_f])
  | (with_reducible refine ifQ_intro ?_ ?_ <;> intro hb))
  generalize hh1 : hset h (ky F 0) (mkRow [c1, c2, c3, c4, c5, c6, c7, re] 0) = h1
  have hS : SameH h h1 := by subst hh1; exact SameH.hset hw (SameH.refl _) (ky_le _ _)
  have hc0 : hget h1 (ky F 0) = some (mkRow [c1, c2, c3, c4, c5, c6, c7, re] 0) := by subst hh1; exact hget_same _ _ _
  refine r_loop (I := fun nn fr s1 => ∃ lc tt i, fr = ⟨F, lc, 32, tt, [], .no⟩ ∧ s1 = ⟨h1, F + 1⟩ ∧ i ≤ W.length ∧ nn = W.length - i ∧ lc + nn * 1000000 ≤ 100000000000000000000000000 ∧ tt.get 1 = some a2 ∧ tt.get 2 = some (.ptr (ky F 0) 0) ∧ tt.get 5 = some (.int .i64 i) ∧ (∀ j (hj : j < i) (hjl : j < W.length), ¬ meets W[j] R)) (n := W.length) ?_ ?_ ?_
  · omega
  · exact ⟨_, _, 0, rfl, rfl, Nat.zero_le _, (Nat.sub_zero _).symm, by omega, (by first | rfl | (simp only [Nat.reduceLT, Tget_set, T.get_n, T.get_e, Nat.reduceEqDiff, Nat.reduceDiv, Nat.reduceMod, Nat.reduceSub, ↓reduceIte, if_true, if_false, hget_same, hget_hset_ite, ky_inj, Nat.reduceAdd, Nat.zero_add] <;> rfl)), (by first | rfl | (simp only [Nat.reduceLT, Tget_set, T.get_n, T.get_e, Nat.reduceEqDiff, Nat.reduceDiv, Nat.reduceMod, Nat.reduceSub, ↓reduceIte, if_true, if_false, hget_same, hget_hset_ite, ky_inj, Nat.reduceAdd, Nat.zero_add] <;> rfl)), (by first | rfl | (simp only [Nat.reduceLT, Tget_set, T.get_n, T.get_e, Nat.reduceEqDiff, Nat.reduceDiv, Nat.reduceMod, Nat.reduceSub, ↓reduceIte, if_true, if_false, hget_same, hget_hset_ite, ky_inj, Nat.reduceAdd, Nat.zero_add] <;> rfl)), fun j hj => absurd hj (Nat.not_lt_zero _)⟩
  rintro nn fr s1 ⟨lc, tt, i, rfl, rfl, hi, rfl, hlc, ht1, ht2, ht5, hI⟩
  by_cases hil : i < W.length
  · repeat' (first
    | with_reducible refine r_seq ?_
    | with_reducible refine r_next ?_
    | with_reducible refine r_block ?_
    | with_reducible refine r_seq_exit ?_
    | with_reducible refine r_seq_ret ?_
    | with_reducible refine r_blk_n ?_
    | with_reducible refine r_blk_ret ?_
    | with_reducible refine r_blk_hit ?_
    | with_reducible refine r_blk_miss rfl ?_
    | with_reducible refine r_skip ?_
    | with_reducible refine r_exit ?_
    | with_reducible refine r_ret ?_
    | with_reducible refine r_rq_exit ?_
    | with_reducible refine r_rq_ret ?_
    | ((with_reducible apply r_regA); (focus (simp only [List.append_eq, List.cons_append, List.nil_append] <;> rfl)); (focus (first | exact Nat.le_of_ble_eq_true rfl | (simp only [List.length_cons, List.length_nil]; omega))))
    | ((with_reducible refine r_reg (List.toList_toArray) ?_ ?_); focus (first | exact Nat.le_of_ble_eq_true rfl | (simp only [List.length_cons, List.length_nil]; omega)))
    | ((with_reducible apply r_end); focus (simp only [Nat.add_assoc, Nat.reduceAdd, Nat.zero_add] <;> rfl))
    | ((with_reducible (first | apply r_any | apply r_cond)); focus (simp only [↓reduceIte, clsOf, clsCall, Fr.ev, ofV, ofA, ofS, put_mk, pureOp, readOp, pBin, binA, intOp_lss, List.getElem?_cons_zero, Nat.reduceLT, Nat.reduceEqDiff, binA, stepOp, stV_mk, stepAny, wantedA_none, rCall, rLen, Tget_set, ht1, ht5, lt_t hil, rLen1_L Tryz.underlying56 hW] <;> rfl))
    | (with_reducible rw [ifQ_t])
    | (with_reducible rw [ifQ_f])
    | (with_reducible refine ifQ_intro ?_ ?_ <;> intro hb))
    refine r_loop (I := fun nn fr s1 => ∃ lc2 tt2 k, fr = ⟨F, lc2, 32, tt2, [], .no⟩ ∧ s1 = ⟨h1, F + 1⟩ ∧ k ≤ R.length ∧ nn = R.length - k ∧ lc2 + nn * 100 ≤ lc + 200000 ∧ tt2.get 1 = some a2 ∧ tt2.get 2 = some (.ptr (ky F 0) 0) ∧ tt2.get 5 = some (.int .i64 i) ∧ tt2.get 6 = some (.int .i64 k) ∧ (∀ j (hj : j < k) (hjl : j < R.length), ¬ sameKey W[i] R[j])) (n := R.length) ?_ ?_ ?_
    · omega
    · exact ⟨_, _, 0, rfl, rfl, Nat.zero_le _, (Nat.sub_zero _).symm, by omega, (by simp only [Tget_set, Nat.reduceEqDiff, ↓reduceIte, ht1] <;> rfl), (by simp only [Tget_set, Nat.reduceEqDiff, ↓reduceIte, ht2] <;> rfl), (by simp only [Tget_set, Nat.reduceEqDiff, ↓reduceIte, ht5] <;> rfl), (by simp only [Tget_set, ↓reduceIte] <;> rfl), fun j hj => absurd hj (Nat.not_lt_zero _)⟩
    rintro nn fr s1 ⟨lc2, tt2, k, rfl, rfl, hk, rfl, hlc2, u1, u2, u5, u6, hJ⟩
    by_cases hkl : k < R.length
    · obtain ⟨b, o, eo, cap, s0, k0, n0, t0, rfl, hb0, hRk, hsl, htl, r0, r1, r3⟩ := item_at hw hR hS hkl
      obtain ⟨b2, o2, eo2, cap2, s2, d2, k2, n2, t2, rfl, hb2, hWi, q0, q1⟩ := write_at hw hW hS hil
      repeat' (first
      | with_reducible refine r_seq ?_
      | with_reducible refine r_next ?_
      | with_reducible refine r_block ?_
      | with_reducible refine r_seq_exit ?_
      | with_reducible refine r_seq_ret ?_
      | with_reducible refine r_blk_n ?_
      | with_reducible refine r_blk_ret ?_
      | with_reducible refine r_blk_hit ?_
      | with_reducible refine r_blk_miss rfl ?_
      | with_reducible refine r_skip ?_
      | with_reducible refine r_exit ?_
      | with_reducible refine r_ret ?_
      | with_reducible refine r_rq_exit ?_
      | with_reducible refine r_rq_ret ?_
      | ((with_reducible apply r_regA); (focus (simp only [List.append_eq, List.cons_append, List.nil_append] <;> rfl)); (focus (first | exact Nat.le_of_ble_eq_true rfl | (simp only [List.length_cons, List.length_nil]; omega))))
      | ((with_reducible refine r_reg (List.toList_toArray) ?_ ?_); focus (first | exact Nat.le_of_ble_eq_true rfl | (simp only [List.length_cons, List.length_nil]; omega)))
      | ((with_reducible apply r_end); focus (simp only [Nat.add_assoc, Nat.reduceAdd, Nat.zero_add] <;> rfl))
      | ((with_reducible (first | apply r_any | apply r_cond)); focus (simp only [↓reduceIte, clsOf, clsCall, Fr.ev, ofV, ofA, ofS, put_mk, pureOp, readOp, pFA, pFA1, pFA2, rLd, rdAB_row, oneCell_one, pBin, binA, intOp_lss, List.length_cons, List.length_nil, List.getElem?_cons_zero, List.getElem?_cons_succ, List.drop_zero, List.drop_succ_cons, List.take_succ_cons, List.take_zero, Nat.zero_add, Nat.reduceAdd, Nat.reduceLT, Nat.reduceLeDiff, Nat.reduceEqDiff, Nat.add_eq, loadA_w, loadW_s, binA, stepOp, stV_mk, sz27, ag27, Tryz.underlying27, Tryz.underlying43, stepAny, wantedA_none, rCall, rLen, rLen1_sl, lenA, Tget_set, u2, u6, hc0, lt_t hkl, intOp_add (inR_succ hkl hsR)] <;> rfl))
      | (with_reducible rw [ifQ_t])
      | (with_reducible rw [ifQ_f])
      | ((with_reducible apply (r_drawW (js := [0, 1, 2, 3, 4, 5, 6, 7, 8, 9, 10, 11]))); (focus kernel_rfl); (focus kernel_rfl); (focus (first | exact Nat.le_of_ble_eq_true rfl | (simp only [List.length_cons, List.length_nil]; omega))))
      | ((with_reducible apply d_end); (focus (simp only [List.length_cons, List.length_nil, Nat.add_assoc, Nat.reduceAdd, Nat.zero_add] <;> rfl)))
      | ((with_reducible apply d_any); (focus rfl); (iterate 2 (focus (simp only [↓reduceIte, clsOf, Fr.ev, put_mk, pureOp, readOp, pFA, pFA1, pFA2, rLd, rdAB_row, oneCell_one, pBin, binA, List.length_cons, List.length_nil, List.getElem?_cons_zero, List.getElem?_cons_succ, List.drop_zero, List.drop_succ_cons, List.take_succ_cons, List.take_zero, Nat.zero_add, Nat.add_zero, Nat.reduceAdd, Nat.reduceLT, Nat.reduceLeDiff, Nat.reduceEqDiff, Nat.add_eq, loadA_w, loadW_s, binA, stepOp, stV_mk, sz9, ag9, sz27, ag27, Tryz.underlying43, Tryz.underlying117, Tryz.underlying119, stepAny, wantedA_none, readSelf, av_str, strOp, Tget_set, u1, u2, u5, u6, hc0, strOp, pIA_s Tryz.underlying27 sz117 hkl, pIA_s Tryz.underlying56 sz119 hil, r1, q1, av_self_L hR] <;> rfl))); (focus (first | exact SameH.refl _ | (simp only [sameT, sameS hw]; done))))
      | (with_reducible refine ifQ_intro ?_ ?_ <;> intro hb))
      · have hx : s2 = s0 := by simpa using hb
        subst hQ
        refine ret_back (by simp only [Tryz.results25, resultOf, resultsA, resultA, List.toList_toArray, Fr.ev, Tget_set, ↓reduceIte] <;> rfl) ⟨_, out_t ?_, ?_⟩
        · exact ⟨k, hkl, i, hil, by rw [hRk, hWi]; exact (sameKey_mk _ _ _ _).2 hx.symm⟩
        repeat (first | exact Same.base _ _ _ | exact hS | refine Same.hset hw ?_ (ky_le _ _))
      · have hx : ¬ s2 = s0 := by simpa using hb
        refine r_rq_n (k := R.length - (k + 1)) (by omega) ⟨_, _, k + 1, rfl, rfl, by omega, rfl, by omega, (by simp only [Tget_set, Nat.reduceEqDiff, ↓reduceIte, u1] <;> rfl), (by simp only [Tget_set, Nat.reduceEqDiff, ↓reduceIte, u2] <;> rfl), (by simp only [Tget_set, Nat.reduceEqDiff, ↓reduceIte, u5] <;> rfl), (by simp only [Tget_set, ↓reduceIte] <;> rfl), fun j hj hjl => ?_⟩
        rcases Nat.lt_or_ge j k with hjk | hjk
        · exact hJ j hjk hjl
        · obtain rfl : j = k := by omega
          rw [hRk, hWi]; exact fun e => hx ((sameKey_mk _ _ _ _).1 e)
    · have hend : k = R.length := by omega
      repeat' (first
      | with_reducible refine r_seq ?_
      | with_reducible refine r_next ?_
      | with_reducible refine r_block ?_
      | with_reducible refine r_seq_exit ?_
      | with_reducible refine r_seq_ret ?_
      | with_reducible refine r_blk_n ?_
      | with_reducible refine r_blk_ret ?_
      | with_reducible refine r_blk_hit ?_
      | with_reducible refine r_blk_miss rfl ?_
      | with_reducible refine r_skip ?_
      | with_reducible refine r_exit ?_
      | with_reducible refine r_ret ?_
      | with_reducible refine r_rq_exit ?_
      | with_reducible refine r_rq_ret ?_
      | ((with_reducible apply r_regA); (focus (simp only [List.append_eq, List.cons_append, List.nil_append] <;> rfl)); (focus (first | exact Nat.le_of_ble_eq_true rfl | (simp only [List.length_cons, List.length_nil]; omega))))
      | ((with_reducible refine r_reg (List.toList_toArray) ?_ ?_); focus (first | exact Nat.le_of_ble_eq_true rfl | (simp only [List.length_cons, List.length_nil]; omega)))
      | ((with_reducible apply r_end); focus (simp only [Nat.add_assoc, Nat.reduceAdd, Nat.zero_add] <;> rfl))
      | ((with_reducible (first | apply r_any | apply r_cond)); focus (simp only [↓reduceIte, clsOf, clsCall, Fr.ev, ofV, ofA, ofS, put_mk, pureOp, readOp, pFA, pFA1, pFA2, rLd, rdAB_row, oneCell_one, pBin, binA, intOp_lss, List.length_cons, List.length_nil, List.getElem?_cons_zero, List.getElem?_cons_succ, List.drop_zero, List.drop_succ_cons, List.take_succ_cons, List.take_zero, Nat.zero_add, Nat.reduceAdd, Nat.reduceLT, Nat.reduceLeDiff, Nat.reduceEqDiff, Nat.add_eq, loadA_w, loadW_s, binA, stepOp, stV_mk, sz27, ag27, Tryz.underlying43, stepAny, wantedA_none, rCall, rLen, Tget_set, u2, u5, u6, hc0, lt_f hkl, intOp_add (inR_succ hil hsW), rLen1_L Tryz.underlying27 hR] <;> rfl))
      | (with_reducible rw [ifQ_t])
      | (with_reducible rw [ifQ_f])
      | (with_reducible refine ifQ_intro ?_ ?_ <;> intro hb))
      refine r_rq_n (k := W.length - (i + 1)) (by omega) ⟨_, _, i + 1, rfl, rfl, by omega, rfl, by omega, (by simp only [Tget_set, Nat.reduceEqDiff, ↓reduceIte, u1] <;> rfl), (by simp only [Tget_set, Nat.reduceEqDiff, ↓reduceIte, u2] <;> rfl), (by simp only [Tget_set, ↓reduceIte] <;> rfl), fun j hj hjl => ?_⟩
      rcases Nat.lt_or_ge j i with hji | hji
      · exact hI j hji hjl
      · obtain rfl : j = i := by omega
        rintro ⟨m, hm, he⟩
        exact hJ m (by omega) hm he
  · have hend : i = W.length := by omega
    repeat' (first
    | with_reducible refine r_seq ?_
    | with_reducible refine r_next ?_
    | with_reducible refine r_block ?_
    | with_reducible refine r_seq_exit ?_
    | with_reducible refine r_seq_ret ?_
    | with_reducible refine r_blk_n ?_
    | with_reducible refine r_blk_ret ?_
    | with_reducible refine r_blk_hit ?_
    | with_reducible refine r_blk_miss rfl ?_
    | with_reducible refine r_skip ?_
    | with_reducible refine r_exit ?_
    | with_reducible refine r_ret ?_
    | with_reducible refine r_rq_exit ?_
    | with_reducible refine r_rq_ret ?_
    | ((with_reducible apply r_regA); (focus (simp only [List.append_eq, List.cons_append, List.nil_append] <;> rfl)); (focus (first | exact Nat.le_of_ble_eq_true rfl | (simp only [List.length_cons, List.length_nil]; omega))))
    | ((with_reducible refine r_reg (List.toList_toArray) ?_ ?_); focus (first | exact Nat.le_of_ble_eq_true rfl | (simp only [List.length_cons, List.length_nil]; omega)))
    | ((with_reducible apply r_end); focus (simp only [Nat.add_assoc, Nat.reduceAdd, Nat.zero_add] <;> rfl))
    | ((with_reducible (first | apply r_any | apply r_cond)); focus (simp only [↓reduceIte, clsOf, clsCall, Fr.ev, ofV, ofA, ofS, put_mk, pureOp, readOp, pBin, binA, intOp_lss, List.getElem?_cons_zero, Nat.reduceLT, Nat.reduceEqDiff, binA, stepOp, stV_mk, stepAny, wantedA_none, rCall, rLen, Tget_set, ht1, ht5, lt_f hil, rLen1_L Tryz.underlying56 hW] <;> rfl))
    | (with_reducible rw [ifQ_t])
    | (with_reducible rw [ifQ_f])
    | (with_reducible refine ifQ_intro ?_ ?_ <;> intro hb))
    subst hQ
    refine ret_back (by simp only [Tryz.results25, resultOf, resultsA, resultA, List.toList_toArray, Fr.ev, Tget_set, ↓reduceIte] <;> rfl) ⟨_, out_f ?_, ?_⟩
    · rintro ⟨j, hj, m, hm, he⟩; exact hI m (by omega) hm ⟨j, hj, he.symm⟩
    repeat (first | exact Same.base _ _ _ | exact hS | refine Same.hset hw ?_ (ky_le _ _))


end Go.Proofs.YtneoghpfbgjaiaaGreatDoor

