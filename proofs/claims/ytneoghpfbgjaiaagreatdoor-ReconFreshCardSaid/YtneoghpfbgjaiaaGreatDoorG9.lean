/- A part of the proof of the law ReconFresh. CONDITIONS: those that each theorem names. -/
import Derived.Test.YtneoghpfbgjaiaaGreatDoorG8
namespace Go.Proofs.YtneoghpfbgjaiaaGreatDoor
open Go Go.Ai
set_option maxRecDepth 100000

theorem texts79_in (h : Heap) (F : Nat) (a a2 : AV) (L M : List (List AV)) (hL : LstP h ksT a L) (hM : LstP h ksT a2 M) (hLM : L.length = M.length) : Snd Tryz.prog [] 79 [a, a2] ⟨h, F⟩ [.val (.bool (dec (L = M))) ⟨h, F⟩] := by
  have mxl : maxLen = 9223372036854775807 := by decide
  refine snd_val (by simp [Kin]) fun hw => ?_
  have hs := hL.len
  have hne : ((L.length : Int) != (M.length : Int)) = false := by simp [hLM]
  refine sndQ_body (K := K0) kok0 mixed noNum (m := L.length + 1) Tryz.func79 ?_
  generalize hQ : retQ _ _ _ _ _ _ = Q0
  refine body_go (c := Tryz.f79.body.getD .skip) (n := 26) rfl rfl (by simp only [↓reduceIte, T.setList, T.set_e, T.set_n, Nat.reduceDiv, Nat.reduceMod, Nat.reduceEqDiff, Nat.zero_add] <;> rfl) ?_
  simp only [Tryz.f79, Option.getD_some]
  repeat' (first
  | with_reducible refine r_seq ?_
  | with_reducible refine r_next ?_
  | with_reducible refine r_block ?_
  | with_reducible refine r_seq_exit ?_
  | with_reducible refine r_seq_ret ?_
  | with_reducible refine r_blk_n ?_
  | with_reducible refine r_blk_ret ?_
  | with_reducible refine r_blk_hit ?_
  | with_reducible refine r_blk_miss rfl ?_
  | with_reducible refine r_skip ?_
  | with_reducible refine r_exit ?_
  | with_reducible refine r_ret ?_
  | with_reducible refine r_rq_exit ?_
  | with_reducible refine r_rq_ret ?_
  | ((with_reducible apply r_regA); (focus (simp only [List.append_eq, List.cons_append, List.nil_append] <;> rfl)); (focus (first | exact Nat.le_of_ble_eq_true rfl | (simp only [List.length_cons, List.length_nil]; omega))))
  | ((with_reducible refine r_reg (List.toList_toArray) ?_ ?_); focus (first | exact Nat.le_of_ble_eq_true rfl | (simp only [List.length_cons, List.length_nil]; omega)))
  | ((with_reducible apply r_end); focus (simp only [Nat.reduceAdd, Nat.zero_add] <;> rfl))
  | ((with_reducible (first | apply r_any | apply r_cond)); focus (simp only [↓reduceIte, clsOf, clsCall, Fr.ev, ofV, ofA, ofS, put_mk, pureOp, readOp, pBin, binA, intOp_neq, List.getElem?_cons_zero, Nat.reduceLT, Nat.reduceEqDiff, Nat.reduceSub, binA, stepOp, stV_mk, T.get_n, T.set_n, T.set_e, Nat.reduceDiv, Nat.reduceMod, stepAny, wantedA_none, rCall, rLen, rLen1_L Tryz.underlying37 hL, rLen1_L Tryz.underlying37 hM, hne, intOp_neq] <;> rfl))
  | (with_reducible rw [ifQ_t])
  | (with_reducible rw [ifQ_f])
  | (with_reducible refine ifQ_intro ?_ ?_ <;> intro hb))
  · refine r_loop (I := fun nn fr s1 => ∃ lc tt h1 i, fr = ⟨F, lc, 26, tt, [], .no⟩ ∧ s1 = ⟨h1, F + 1⟩ ∧ i ≤ L.length ∧ nn = L.length - i ∧ 2 ≤ lc ∧ lc + nn * 1000 ≤ 100000000000000000000000000 ∧ SameH h h1 ∧ tt.get 0 = some (a) ∧ tt.get 1 = some (a2) ∧ tt.get 12 = some (.int .i64 L.length) ∧ tt.get 13 = some (.int .i64 i) ∧ (∀ j (hj : j < i) (h1 : j < L.length) (h2 : j < M.length), L[j] = M[j])) (n := L.length) ?_ ?_ ?_
    · omega
    · exact ⟨_, _, _, 0, rfl, rfl, Nat.zero_le _, (Nat.sub_zero _).symm, by first | omega | exact Nat.le_of_ble_eq_true rfl, by omega, (by repeat (first | exact SameH.refl _ | refine SameH.hset hw ?_ (ky_le _ _))), (by first | rfl | (simp only [Nat.reduceLT, Tget_set, T.get_n, T.get_e, Nat.reduceEqDiff, Nat.reduceDiv, Nat.reduceMod, Nat.reduceSub, ↓reduceIte, if_true, if_false, hget_same, hget_hset_ite, ky_inj, Nat.reduceAdd, Nat.zero_add, rLen1_L Tryz.underlying37 hL, rLen1_L Tryz.underlying37 hM, hne, intOp_neq] <;> rfl)), (by first | rfl | (simp only [Nat.reduceLT, Tget_set, T.get_n, T.get_e, Nat.reduceEqDiff, Nat.reduceDiv, Nat.reduceMod, Nat.reduceSub, ↓reduceIte, if_true, if_false, hget_same, hget_hset_ite, ky_inj, Nat.reduceAdd, Nat.zero_add, rLen1_L Tryz.underlying37 hL, rLen1_L Tryz.underlying37 hM, hne, intOp_neq] <;> rfl)), (by first | rfl | (simp only [Nat.reduceLT, Tget_set, T.get_n, T.get_e, Nat.reduceEqDiff, Nat.reduceDiv, Nat.reduceMod, Nat.reduceSub, ↓reduceIte, if_true, if_false, hget_same, hget_hset_ite, ky_inj, Nat.reduceAdd, Nat.zero_add, rLen1_L Tryz.underlying37 hL, rLen1_L Tryz.underlying37 hM, hne, intOp_neq] <;> rfl)), (by first | rfl | (simp only [Nat.reduceLT, Tget_set, T.get_n, T.get_e, Nat.reduceEqDiff, Nat.reduceDiv, Nat.reduceMod, Nat.reduceSub, ↓reduceIte, if_true, if_false, hget_same, hget_hset_ite, ky_inj, Nat.reduceAdd, Nat.zero_add, rLen1_L Tryz.underlying37 hL, rLen1_L Tryz.underlying37 hM, hne, intOp_neq] <;> rfl)), fun j hj => absurd hj (Nat.not_lt_zero _)⟩
    rintro nn fr s1 ⟨lc, tt, h1, i, rfl, rfl, hi, rfl, hl0, hlc, hS, ht0, ht1, ht12, ht13, hI⟩
    by_cases hil : i < L.length
    · have hil2 : i < M.length := by omega
      obtain ⟨b, o, eo, cap, s0, rfl, hb0, hLi, r0⟩ := text_at hw hL hS hil
      obtain ⟨b2, o2, eo2, cap2, s1, rfl, hb1, hMi, r2⟩ := text_at hw hM hS hil2
      repeat' (first
      | with_reducible refine r_seq ?_
      | with_reducible refine r_next ?_
      | with_reducible refine r_block ?_
      | with_reducible refine r_seq_exit ?_
      | with_reducible refine r_seq_ret ?_
      | with_reducible refine r_blk_n ?_
      | with_reducible refine r_blk_ret ?_
      | with_reducible refine r_blk_hit ?_
      | with_reducible refine r_blk_miss rfl ?_
      | with_reducible refine r_skip ?_
      | with_reducible refine r_exit ?_
      | with_reducible refine r_ret ?_
      | with_reducible refine r_rq_exit ?_
      | with_reducible refine r_rq_ret ?_
      | ((with_reducible apply r_regA); (focus (simp only [List.append_eq, List.cons_append, List.nil_append] <;> rfl)); (focus (first | exact Nat.le_of_ble_eq_true rfl | (simp only [List.length_cons, List.length_nil]; omega))))
      | ((with_reducible refine r_reg (List.toList_toArray) ?_ ?_); focus (first | exact Nat.le_of_ble_eq_true rfl | (simp only [List.length_cons, List.length_nil]; omega)))
      | ((with_reducible apply r_end); focus (simp only [Nat.add_assoc, Nat.reduceAdd, Nat.zero_add] <;> rfl))
      | ((with_reducible (first | apply r_any | apply r_cond)); focus (simp only [↓reduceIte, clsOf, Fr.ev, ofV, ofA, ofS, put_mk, pureOp, pBin, binA, intOp_lss, Nat.reduceLT, Nat.reduceEqDiff, binA, stepOp, stV_mk, stepAny, wantedA_none, Tget_set, ht12, ht13, lt_t hil, intOp_add (inR_succ hil hs)] <;> rfl))
      | (with_reducible rw [ifQ_t])
      | (with_reducible rw [ifQ_f])
      | ((with_reducible apply (r_drawW (js := [0, 1, 2, 3, 4, 5, 6, 7, 8]))); (focus kernel_rfl); (focus kernel_rfl); (focus (first | exact Nat.le_of_ble_eq_true rfl | (simp only [List.length_cons, List.length_nil]; omega))))
      | ((with_reducible apply d_end); (focus (simp only [List.length_cons, List.length_nil, Nat.add_assoc, Nat.reduceAdd, Nat.zero_add] <;> rfl)))
      | ((with_reducible apply d_any); (focus rfl); (iterate 2 (focus (simp only [↓reduceIte, clsOf, Fr.ev, put_mk, pureOp, readOp, rLd, oneCell_one, pBin, binA, Nat.reduceLT, Nat.reduceEqDiff, loadA_w, loadW_s, binA, stepOp, stV_mk, sz9, ag9, stepAny, wantedA_none, readSelf, av_str, strOp, pIA_s Tryz.underlying37 sz9 hil, pIA_s Tryz.underlying37 sz9 hil2, r0, r2, Tget_set, ht0, ht1] <;> rfl))); (focus (first | exact SameH.refl _ | (simp only [sameT, sameS hw]; done))))
      | (with_reducible refine ifQ_intro ?_ ?_ <;> intro hb))
      · have hx : [AV.str s0] ≠ [AV.str s1] := fun hx => by cases hx; simp at hb
        subst hQ
        refine ret_back (by simp only [Tryz.results79, resultOf, resultsA, resultA, List.toList_toArray, Fr.ev, Tget_set, ↓reduceIte] <;> rfl) ⟨_, out_f ?_, ?_⟩
        · exact ne_idx hil hil2 (by rw [hLi, hMi]; exact hx)
        repeat (first | exact Same.base _ _ _ | exact hS | refine Same.hset hw ?_ (ky_le _ _))
      · have hx : [AV.str s0] = [AV.str s1] := by simp at hb; rw [hb]
        have hp : L[i] = M[i] := by rw [hLi, hMi]; exact hx
        refine r_rq_n (k := L.length - (i + 1)) (by omega) ⟨_, _, _, i + 1, rfl, rfl, by omega, rfl, by omega, by omega, hS, (by simp only [Tget_set, Nat.reduceEqDiff, ↓reduceIte, Tget_set, ht0] <;> rfl), (by simp only [Tget_set, Nat.reduceEqDiff, ↓reduceIte, Tget_set, ht1] <;> rfl), (by simp only [Tget_set, Nat.reduceEqDiff, ↓reduceIte, Tget_set, ht12] <;> rfl), (by simp only [Tget_set, ↓reduceIte, Tget_set] <;> rfl), fun j hj h1 h2 => by rcases Nat.lt_or_ge j i with hji | hji; exact hI j hji h1 h2; obtain rfl : j = i := (by omega); exact hp⟩
    · have hend : i = L.length := by omega
      repeat' (first
      | with_reducible refine r_seq ?_
      | with_reducible refine r_next ?_
      | with_reducible refine r_block ?_
      | with_reducible refine r_seq_exit ?_
      | with_reducible refine r_seq_ret ?_
      | with_reducible refine r_blk_n ?_
      | with_reducible refine r_blk_ret ?_
      | with_reducible refine r_blk_hit ?_
      | with_reducible refine r_blk_miss rfl ?_
      | with_reducible refine r_skip ?_
      | with_reducible refine r_exit ?_
      | with_reducible refine r_ret ?_
      | with_reducible refine r_rq_exit ?_
      | with_reducible refine r_rq_ret ?_
      | ((with_reducible apply r_regA); (focus (simp only [List.append_eq, List.cons_append, List.nil_append] <;> rfl)); (focus (first | exact Nat.le_of_ble_eq_true rfl | (simp only [List.length_cons, List.length_nil]; omega))))
      | ((with_reducible refine r_reg (List.toList_toArray) ?_ ?_); focus (first | exact Nat.le_of_ble_eq_true rfl | (simp only [List.length_cons, List.length_nil]; omega)))
      | ((with_reducible apply r_end); focus (simp only [Nat.add_assoc, Nat.reduceAdd, Nat.zero_add] <;> rfl))
      | ((with_reducible (first | apply r_any | apply r_cond)); focus (simp only [↓reduceIte, clsOf, Fr.ev, ofV, ofA, ofS, put_mk, pureOp, pBin, binA, intOp_lss, Nat.reduceLT, binA, stepOp, stV_mk, stepAny, wantedA_none, Tget_set, ht12, ht13, lt_f hil] <;> rfl))
      | (with_reducible rw [ifQ_t])
      | (with_reducible rw [ifQ_f])
      | (with_reducible refine ifQ_intro ?_ ?_ <;> intro hb))
      · subst hQ
        refine ret_back (by simp only [Tryz.results79, resultOf, resultsA, resultA, List.toList_toArray, Fr.ev, Tget_set, ↓reduceIte] <;> rfl) ⟨_, out_t ?_, ?_⟩
        · exact eq_idx hLM fun j h1 h2 => hI j (by omega) h1 h2
        repeat (first | exact Same.base _ _ _ | exact hS | refine Same.hset hw ?_ (ky_le _ _))
theorem texts79 (h : Heap) (F : Nat) (a a2 : AV) (L M : List (List AV)) (hL : LstP h ksT a L) (hM : LstP h ksT a2 M) : Snd Tryz.prog [] 79 [a, a2] ⟨h, F⟩ [.val (.bool (dec (L = M))) ⟨h, F⟩] := by
  by_cases hLM : L.length = M.length
  · exact texts79_in h F a a2 L M hL hM hLM
  refine snd_val (by simp [Kin]) fun hw => ?_
  have hne : ((L.length : Int) != (M.length : Int)) = true := by simp; omega
  refine sndQ_body (K := K0) kok0 mixed noNum (m := 0) Tryz.func79 ?_
  generalize hQ : retQ _ _ _ _ _ _ = Q0
  refine body_go (c := Tryz.f79.body.getD .skip) (n := 26) rfl rfl (by simp only [↓reduceIte, T.setList, T.set_e, T.set_n, Nat.reduceDiv, Nat.reduceMod, Nat.reduceEqDiff, Nat.zero_add] <;> rfl) ?_
  simp only [Tryz.f79, Option.getD_some]
  repeat' (first
  | with_reducible refine r_seq ?_
  | with_reducible refine r_next ?_
  | with_reducible refine r_block ?_
  | with_reducible refine r_seq_exit ?_
  | with_reducible refine r_seq_ret ?_
  | with_reducible refine r_blk_n ?_
  | with_reducible refine r_blk_ret ?_
  | with_reducible refine r_blk_hit ?_
  | with_reducible refine r_blk_miss rfl ?_
  | with_reducible refine r_skip ?_
  | with_reducible refine r_exit ?_
  | with_reducible refine r_ret ?_
  | with_reducible refine r_rq_exit ?_
  | with_reducible refine r_rq_ret ?_
  | ((with_reducible apply r_regA); (focus (simp only [List.append_eq, List.cons_append, List.nil_append] <;> rfl)); (focus (first | exact Nat.le_of_ble_eq_true rfl | (simp only [List.length_cons, List.length_nil]; omega))))
  | ((with_reducible refine r_reg (List.toList_toArray) ?_ ?_); focus (first | exact Nat.le_of_ble_eq_true rfl | (simp only [List.length_cons, List.length_nil]; omega)))
  | ((with_reducible apply r_end); focus (simp only [Nat.reduceAdd, Nat.zero_add] <;> rfl))
  | ((with_reducible (first | apply r_any | apply r_cond)); focus (simp only [↓reduceIte, clsOf, clsCall, Fr.ev, ofV, ofA, ofS, put_mk, pureOp, readOp, pBin, binA, intOp_neq, List.getElem?_cons_zero, Nat.reduceLT, Nat.reduceEqDiff, Nat.reduceSub, binA, stepOp, stV_mk, T.get_n, T.set_n, T.set_e, Nat.reduceDiv, Nat.reduceMod, stepAny, wantedA_none, rCall, rLen, rLen1_L Tryz.underlying37 hL, rLen1_L Tryz.underlying37 hM, hne, intOp_neq] <;> rfl))
  | (with_reducible rw [ifQ_t])
  | (with_reducible rw [ifQ_f])
  | (with_reducible refine ifQ_intro ?_ ?_ <;> intro hb))
  subst hQ
  refine ret_back (by simp only [Tryz.results79, resultOf, resultsA, resultA, List.toList_toArray, Fr.ev, T.get_n, Nat.reduceDiv, Nat.reduceMod, Nat.reduceSub, Nat.reduceEqDiff, ↓reduceIte] <;> rfl) ⟨_, out_f ?_, ?_⟩
  · exact ne_len hLM
  repeat (first | exact Same.base _ _ _ | exact Same.refl _ | refine Same.hset hw ?_ (ky_le _ _))

theorem items80_in (h : Heap) (F : Nat) (a a2 : AV) (L M : List (List AV)) (hL : LstP h ksI a L) (hM : LstP h ksI a2 M) (hLM : L.length = M.length) : Snd Tryz.prog [] 80 [a, a2] ⟨h, F⟩ [.val (.bool (dec (L = M))) ⟨h, F⟩] := by
  have mxl : maxLen = 9223372036854775807 := by decide
  refine snd_val (by simp [Kin]) fun hw => ?_
  have hs := hL.len
  have hne : ((L.length : Int) != (M.length : Int)) = false := by simp [hLM]
  refine sndQ_body (K := K0) kok0 mixed noNum (m := L.length + 1) Tryz.func80 ?_
  generalize hQ : retQ _ _ _ _ _ _ = Q0
  refine body_go (c := Tryz.f80.body.getD .skip) (n := 26) rfl rfl (by simp only [↓reduceIte, T.setList, T.set_e, T.set_n, Nat.reduceDiv, Nat.reduceMod, Nat.reduceEqDiff, Nat.zero_add] <;> rfl) ?_
  simp only [Tryz.f80, Option.getD_some]
  repeat' (first
  | with_reducible refine r_seq ?_
  | with_reducible refine r_next ?_
  | with_reducible refine r_block ?_
  | with_reducible refine r_seq_exit ?_
  | with_reducible refine r_seq_ret ?_
  | with_reducible refine r_blk_n ?_
  | with_reducible refine r_blk_ret ?_
  | with_reducible refine r_blk_hit ?_
  | with_reducible refine r_blk_miss rfl ?_
  | with_reducible refine r_skip ?_
  | with_reducible refine r_exit ?_
  | with_reducible refine r_ret ?_
  | with_reducible refine r_rq_exit ?_
  | with_reducible refine r_rq_ret ?_
  | ((with_reducible apply r_regA); (focus (simp only [List.append_eq, List.cons_append, List.nil_append] <;> rfl)); (focus (first | exact Nat.le_of_ble_eq_true rfl | (simp only [List.length_cons, List.length_nil]; omega))))
  | ((with_reducible refine r_reg (List.toList_toArray) ?_ ?_); focus (first | exact Nat.le_of_ble_eq_true rfl | (simp only [List.length_cons, List.length_nil]; omega)))
  | ((with_reducible apply r_end); focus (simp only [Nat.reduceAdd, Nat.zero_add] <;> rfl))
  | ((with_reducible (first | apply r_any | apply r_cond)); focus (simp only [↓reduceIte, clsOf, clsCall, Fr.ev, ofV, ofA, ofS, put_mk, pureOp, readOp, pBin, binA, intOp_neq, List.getElem?_cons_zero, Nat.reduceLT, Nat.reduceEqDiff, Nat.reduceSub, binA, stepOp, stV_mk, T.get_n, T.set_n, T.set_e, Nat.reduceDiv, Nat.reduceMod, stepAny, wantedA_none, rCall, rLen, rLen1_L Tryz.underlying27 hL, rLen1_L Tryz.underlying27 hM, hne, intOp_neq] <;> rfl))
  | (with_reducible rw [ifQ_t])
  | (with_reducible rw [ifQ_f])
  | (with_reducible refine ifQ_intro ?_ ?_ <;> intro hb))
  · refine r_loop (I := fun nn fr s1 => ∃ lc tt h1 i, fr = ⟨F, lc, 26, tt, [], .no⟩ ∧ s1 = ⟨h1, F + 1⟩ ∧ i ≤ L.length ∧ nn = L.length - i ∧ 2 ≤ lc ∧ lc + nn * 1000 ≤ 100000000000000000000000000 ∧ SameH h h1 ∧ tt.get 0 = some (a) ∧ tt.get 1 = some (a2) ∧ tt.get 12 = some (.int .i64 L.length) ∧ tt.get 13 = some (.int .i64 i) ∧ (∀ j (hj : j < i) (h1 : j < L.length) (h2 : j < M.length), L[j] = M[j])) (n := L.length) ?_ ?_ ?_
    · omega
    · exact ⟨_, _, _, 0, rfl, rfl, Nat.zero_le _, (Nat.sub_zero _).symm, by first | omega | exact Nat.le_of_ble_eq_true rfl, by omega, (by repeat (first | exact SameH.refl _ | refine SameH.hset hw ?_ (ky_le _ _))), (by first | rfl | (simp only [Nat.reduceLT, Tget_set, T.get_n, T.get_e, Nat.reduceEqDiff, Nat.reduceDiv, Nat.reduceMod, Nat.reduceSub, ↓reduceIte, if_true, if_false, hget_same, hget_hset_ite, ky_inj, Nat.reduceAdd, Nat.zero_add, rLen1_L Tryz.underlying27 hL, rLen1_L Tryz.underlying27 hM, hne, intOp_neq] <;> rfl)), (by first | rfl | (simp only [Nat.reduceLT, Tget_set, T.get_n, T.get_e, Nat.reduceEqDiff, Nat.reduceDiv, Nat.reduceMod, Nat.reduceSub, ↓reduceIte, if_true, if_false, hget_same, hget_hset_ite, ky_inj, Nat.reduceAdd, Nat.zero_add, rLen1_L Tryz.underlying27 hL, rLen1_L Tryz.underlying27 hM, hne, intOp_neq] <;> rfl)), (by first | rfl | (simp only [Nat.reduceLT, Tget_set, T.get_n, T.get_e, Nat.reduceEqDiff, Nat.reduceDiv, Nat.reduceMod, Nat.reduceSub, ↓reduceIte, if_true, if_false, hget_same, hget_hset_ite, ky_inj, Nat.reduceAdd, Nat.zero_add, rLen1_L Tryz.underlying27 hL, rLen1_L Tryz.underlying27 hM, hne, intOp_neq] <;> rfl)), (by first | rfl | (simp only [Nat.reduceLT, Tget_set, T.get_n, T.get_e, Nat.reduceEqDiff, Nat.reduceDiv, Nat.reduceMod, Nat.reduceSub, ↓reduceIte, if_true, if_false, hget_same, hget_hset_ite, ky_inj, Nat.reduceAdd, Nat.zero_add, rLen1_L Tryz.underlying27 hL, rLen1_L Tryz.underlying27 hM, hne, intOp_neq] <;> rfl)), fun j hj => absurd hj (Nat.not_lt_zero _)⟩
    rintro nn fr s1 ⟨lc, tt, h1, i, rfl, rfl, hi, rfl, hl0, hlc, hS, ht0, ht1, ht12, ht13, hI⟩
    by_cases hil : i < L.length
    · have hil2 : i < M.length := by omega
      obtain ⟨b, o, eo, cap, s0, k0, n0, t0, rfl, hb0, hLi, _, _, r0, _, _⟩ := item_at hw hL hS hil
      obtain ⟨b2, o2, eo2, cap2, s1, k1, n1, t1, rfl, hb1, hMi, _, _, r2, _, _⟩ := item_at hw hM hS hil2
      repeat' (first
      | with_reducible refine r_seq ?_
      | with_reducible refine r_next ?_
      | with_reducible refine r_block ?_
      | with_reducible refine r_seq_exit ?_
      | with_reducible refine r_seq_ret ?_
      | with_reducible refine r_blk_n ?_
      | with_reducible refine r_blk_ret ?_
      | with_reducible refine r_blk_hit ?_
      | with_reducible refine r_blk_miss rfl ?_
      | with_reducible refine r_skip ?_
      | with_reducible refine r_exit ?_
      | with_reducible refine r_ret ?_
      | with_reducible refine r_rq_exit ?_
      | with_reducible refine r_rq_ret ?_
      | ((with_reducible apply r_regA); (focus (simp only [List.append_eq, List.cons_append, List.nil_append] <;> rfl)); (focus (first | exact Nat.le_of_ble_eq_true rfl | (simp only [List.length_cons, List.length_nil]; omega))))
      | ((with_reducible refine r_reg (List.toList_toArray) ?_ ?_); focus (first | exact Nat.le_of_ble_eq_true rfl | (simp only [List.length_cons, List.length_nil]; omega)))
      | ((with_reducible apply r_end); focus (simp only [Nat.add_assoc, Nat.reduceAdd, Nat.zero_add] <;> rfl))
      | ((with_reducible (first | apply r_any | apply r_cond)); focus (simp only [↓reduceIte, clsOf, Fr.ev, ofV, ofA, ofS, put_mk, pureOp, pBin, binA, intOp_lss, Nat.reduceLT, Nat.reduceEqDiff, binA, stepOp, stV_mk, stepAny, wantedA_none, Tget_set, ht12, ht13, lt_t hil, intOp_add (inR_succ hil hs)] <;> rfl))
      | (with_reducible rw [ifQ_t])
      | (with_reducible rw [ifQ_f])
      | ((with_reducible apply (r_drawW (js := [0, 1, 2, 3, 4, 5, 6, 7, 8]))); (focus kernel_rfl); (focus kernel_rfl); (focus (first | exact Nat.le_of_ble_eq_true rfl | (simp only [List.length_cons, List.length_nil]; omega))))
      | ((with_reducible apply d_end); (focus (simp only [List.length_cons, List.length_nil, Nat.add_assoc, Nat.reduceAdd, Nat.zero_add] <;> rfl)))
      | ((with_reducible apply d_any); (focus rfl); (iterate 2 (focus (simp only [↓reduceIte, Bool.not_false, clsOf, Fr.ev, put_mk, pureOp, readOp, rLd, someAgg_s, pBin, binA, Nat.reduceLT, Nat.reduceEqDiff, loadA_w, loadW_a, binA, eqGuardOk, Bool.and_true, stepOp, stV_mk, sz117, ag117, stepAny, wantedA_none, readSelf, av_str, av_int, av_agg, avs_nil, avs_cons, pIA_s Tryz.underlying27 sz117 hil, pIA_s Tryz.underlying27 sz117 hil2, r0, r2, eqI100, eg117, Tget_set, ht0, ht1] <;> rfl))); (focus (first | exact SameH.refl _ | (simp only [sameT, sameS hw]; done))))
      | (with_reducible refine ifQ_intro ?_ ?_ <;> intro hb))
      · have hx : [AV.str s0, .int .i64 k0, .int .i64 n0, .str t0] ≠ [.str s1, .int .i64 k1, .int .i64 n1, .str t1] := fun hx => by rw [dec_t hx] at hb; cases hb
        subst hQ
        refine ret_back (by simp only [Tryz.results80, resultOf, resultsA, resultA, List.toList_toArray, Fr.ev, Tget_set, ↓reduceIte] <;> rfl) ⟨_, out_f ?_, ?_⟩
        · exact ne_idx hil hil2 (by rw [hLi, hMi]; exact hx)
        repeat (first | exact Same.base _ _ _ | exact hS | refine Same.hset hw ?_ (ky_le _ _))
      · have hx : [AV.str s0, .int .i64 k0, .int .i64 n0, .str t0] = [.str s1, .int .i64 k1, .int .i64 n1, .str t1] := dec_iff.1 (by simpa using hb)
        have hp : L[i] = M[i] := by rw [hLi, hMi]; exact hx
        refine r_rq_n (k := L.length - (i + 1)) (by omega) ⟨_, _, _, i + 1, rfl, rfl, by omega, rfl, by omega, by omega, hS, (by simp only [Tget_set, Nat.reduceEqDiff, ↓reduceIte, Tget_set, ht0] <;> rfl), (by simp only [Tget_set, Nat.reduceEqDiff, ↓reduceIte, Tget_set, ht1] <;> rfl), (by simp only [Tget_set, Nat.reduceEqDiff, ↓reduceIte, Tget_set, ht12] <;> rfl), (by simp only [Tget_set, ↓reduceIte, Tget_set] <;> rfl), fun j hj h1 h2 => by rcases Nat.lt_or_ge j i with hji | hji; exact hI j hji h1 h2; obtain rfl : j = i := (by omega); exact hp⟩
    · have hend : i = L.length := by omega
      repeat' (first
      | with_reducible refine r_seq ?_
      | with_reducible refine r_next ?_
      | with_reducible refine r_block ?_
      | with_reducible refine r_seq_exit ?_
      | with_reducible refine r_seq_ret ?_
      | with_reducible refine r_blk_n ?_
      | with_reducible refine r_blk_ret ?_
      | with_reducible refine r_blk_hit ?_
      | with_reducible refine r_blk_miss rfl ?_
      | with_reducible refine r_skip ?_
      | with_reducible refine r_exit ?_
      | with_reducible refine r_ret ?_
      | with_reducible refine r_rq_exit ?_
      | with_reducible refine r_rq_ret ?_
      | ((with_reducible apply r_regA); (focus (simp only [List.append_eq, List.cons_append, List.nil_append] <;> rfl)); (focus (first | exact Nat.le_of_ble_eq_true rfl | (simp only [List.length_cons, List.length_nil]; omega))))
      | ((with_reducible refine r_reg (List.toList_toArray) ?_ ?_); focus (first | exact Nat.le_of_ble_eq_true rfl | (simp only [List.length_cons, List.length_nil]; omega)))
      | ((with_reducible apply r_end); focus (simp only [Nat.add_assoc, Nat.reduceAdd, Nat.zero_add] <;> rfl))
      | ((with_reducible (first | apply r_any | apply r_cond)); focus (simp only [↓reduceIte, clsOf, Fr.ev, ofV, ofA, ofS, put_mk, pureOp, pBin, binA, intOp_lss, Nat.reduceLT, binA, stepOp, stV_mk, stepAny, wantedA_none, Tget_set, ht12, ht13, lt_f hil] <;> rfl))
      | (with_reducible rw [ifQ_t])
      | (with_reducible rw [ifQ_f])
      | (with_reducible refine ifQ_intro ?_ ?_ <;> intro hb))
      · subst hQ
        refine ret_back (by simp only [Tryz.results80, resultOf, resultsA, resultA, List.toList_toArray, Fr.ev, Tget_set, ↓reduceIte] <;> rfl) ⟨_, out_t ?_, ?_⟩
        · exact eq_idx hLM fun j h1 h2 => hI j (by omega) h1 h2
        repeat (first | exact Same.base _ _ _ | exact hS | refine Same.hset hw ?_ (ky_le _ _))
theorem items80 (h : Heap) (F : Nat) (a a2 : AV) (L M : List (List AV)) (hL : LstP h ksI a L) (hM : LstP h ksI a2 M) : Snd Tryz.prog [] 80 [a, a2] ⟨h, F⟩ [.val (.bool (dec (L = M))) ⟨h, F⟩] := by
  by_cases hLM : L.length = M.length
  · exact items80_in h F a a2 L M hL hM hLM
  refine snd_val (by simp [Kin]) fun hw => ?_
  have hne : ((L.length : Int) != (M.length : Int)) = true := by simp; omega
  refine sndQ_body (K := K0) kok0 mixed noNum (m := 0) Tryz.func80 ?_
  generalize hQ : retQ _ _ _ _ _ _ = Q0
  refine body_go (c := Tryz.f80.body.getD .skip) (n := 26) rfl rfl (by simp only [↓reduceIte, T.setList, T.set_e, T.set_n, Nat.reduceDiv, Nat.reduceMod, Nat.reduceEqDiff, Nat.zero_add] <;> rfl) ?_
  simp only [Tryz.f80, Option.getD_some]
  repeat' (first
  | with_reducible refine r_seq ?_
  | with_reducible refine r_next ?_
  | with_reducible refine r_block ?_
  | with_reducible refine r_seq_exit ?_
  | with_reducible refine r_seq_ret ?_
  | with_reducible refine r_blk_n ?_
  | with_reducible refine r_blk_ret ?_
  | with_reducible refine r_blk_hit ?_
  | with_reducible refine r_blk_miss rfl ?_
  | with_reducible refine r_skip ?_
  | with_reducible refine r_exit ?_
  | with_reducible refine r_ret ?_
  | with_reducible refine r_rq_exit ?_
  | with_reducible refine r_rq_ret ?_
  | ((with_reducible apply r_regA); (focus (simp only [List.append_eq, List.cons_append, List.nil_append] <;> rfl)); (focus (first | exact Nat.le_of_ble_eq_true rfl | (simp only [List.length_cons, List.length_nil]; omega))))
  | ((with_reducible refine r_reg (List.toList_toArray) ?_ ?_); focus (first | exact Nat.le_of_ble_eq_true rfl | (simp only [List.length_cons, List.length_nil]; omega)))
  | ((with_reducible apply r_end); focus (simp only [Nat.reduceAdd, Nat.zero_add] <;> rfl))
  | ((with_reducible (first | apply r_any | apply r_cond)); focus (simp only [↓reduceIte, clsOf, clsCall, Fr.ev, ofV, ofA, ofS, put_mk, pureOp, readOp, pBin, binA, intOp_neq, List.getElem?_cons_zero, Nat.reduceLT, Nat.reduceEqDiff, Nat.reduceSub, binA, stepOp, stV_mk, T.get_n, T.set_n, T.set_e, Nat.reduceDiv, Nat.reduceMod, stepAny, wantedA_none, rCall, rLen, rLen1_L Tryz.underlying27 hL, rLen1_L Tryz.underlying27 hM, hne, intOp_neq] <;> rfl))
  | (with_reducible rw [ifQ_t])
  | (with_reducible rw [ifQ_f])
  | (with_reducible refine ifQ_intro ?_ ?_ <;> intro hb))
  subst hQ
  refine ret_back (by simp only [Tryz.results80, resultOf, resultsA, resultA, List.toList_toArray, Fr.ev, T.get_n, Nat.reduceDiv, Nat.reduceMod, Nat.reduceSub, Nat.reduceEqDiff, ↓reduceIte] <;> rfl) ⟨_, out_f ?_, ?_⟩
  · exact ne_len hLM
  repeat (first | exact Same.base _ _ _ | exact Same.refl _ | refine Same.hset hw ?_ (ky_le _ _))

theorem values122_in (h : Heap) (F : Nat) (a a2 : AV) (L M : List (List AV)) (hL : LstP h ksV a L) (hM : LstP h ksV a2 M) (hLM : L.length = M.length) : Snd Tryz.prog [] 122 [a, a2] ⟨h, F⟩ [.val (.bool (dec (L = M))) ⟨h, F⟩] := by
  have mxl : maxLen = 9223372036854775807 := by decide
  refine snd_val (by simp [Kin]) fun hw => ?_
  have hs := hL.len
  have hne : ((L.length : Int) != (M.length : Int)) = false := by simp [hLM]
  refine sndQ_body (K := K0) kok0 mixed noNum (m := L.length + 1) Tryz.func122 ?_
  generalize hQ : retQ _ _ _ _ _ _ = Q0
  refine body_go (c := Tryz.f122.body.getD .skip) (n := 26) rfl rfl (by simp only [↓reduceIte, T.setList, T.set_e, T.set_n, Nat.reduceDiv, Nat.reduceMod, Nat.reduceEqDiff, Nat.zero_add] <;> rfl) ?_
  simp only [Tryz.f122, Option.getD_some]
  repeat' (first
  | with_reducible refine r_seq ?_
  | with_reducible refine r_next ?_
  | with_reducible refine r_block ?_
  | with_reducible refine r_seq_exit ?_
  | with_reducible refine r_seq_ret ?_
  | with_reducible refine r_blk_n ?_
  | with_reducible refine r_blk_ret ?_
  | with_reducible refine r_blk_hit ?_
  | with_reducible refine r_blk_miss rfl ?_
  | with_reducible refine r_skip ?_
  | with_reducible refine r_exit ?_
  | with_reducible refine r_ret ?_
  | with_reducible refine r_rq_exit ?_
  | with_reducible refine r_rq_ret ?_
  | ((with_reducible apply r_regA); (focus (simp only [List.append_eq, List.cons_append, List.nil_append] <;> rfl)); (focus (first | exact Nat.le_of_ble_eq_true rfl | (simp only [List.length_cons, List.length_nil]; omega))))
  | ((with_reducible refine r_reg (List.toList_toArray) ?_ ?_); focus (first | exact Nat.le_of_ble_eq_true rfl | (simp only [List.length_cons, List.length_nil]; omega)))
  | ((with_reducible apply r_end); focus (simp only [Nat.reduceAdd, Nat.zero_add] <;> rfl))
  | ((with_reducible (first | apply r_any | apply r_cond)); focus (simp only [↓reduceIte, clsOf, clsCall, Fr.ev, ofV, ofA, ofS, put_mk, pureOp, readOp, pBin, binA, intOp_neq, List.getElem?_cons_zero, Nat.reduceLT, Nat.reduceEqDiff, Nat.reduceSub, binA, stepOp, stV_mk, T.get_n, T.set_n, T.set_e, Nat.reduceDiv, Nat.reduceMod, stepAny, wantedA_none, rCall, rLen, rLen1_L Tryz.underlying24 hL, rLen1_L Tryz.underlying24 hM, hne, intOp_neq] <;> rfl))
  | (with_reducible rw [ifQ_t])
  | (with_reducible rw [ifQ_f])
  | (with_reducible refine ifQ_intro ?_ ?_ <;> intro hb))
  · refine r_loop (I := fun nn fr s1 => ∃ lc tt h1 i, fr = ⟨F, lc, 26, tt, [], .no⟩ ∧ s1 = ⟨h1, F + 1⟩ ∧ i ≤ L.length ∧ nn = L.length - i ∧ 2 ≤ lc ∧ lc + nn * 1000 ≤ 100000000000000000000000000 ∧ SameH h h1 ∧ tt.get 0 = some (a) ∧ tt.get 1 = some (a2) ∧ tt.get 12 = some (.int .i64 L.length) ∧ tt.get 13 = some (.int .i64 i) ∧ (∀ j (hj : j < i) (h1 : j < L.length) (h2 : j < M.length), L[j] = M[j])) (n := L.length) ?_ ?_ ?_
    · omega
    · exact ⟨_, _, _, 0, rfl, rfl, Nat.zero_le _, (Nat.sub_zero _).symm, by first | omega | exact Nat.le_of_ble_eq_true rfl, by omega, (by repeat (first | exact SameH.refl _ | refine SameH.hset hw ?_ (ky_le _ _))), (by first | rfl | (simp only [Nat.reduceLT, Tget_set, T.get_n, T.get_e, Nat.reduceEqDiff, Nat.reduceDiv, Nat.reduceMod, Nat.reduceSub, ↓reduceIte, if_true, if_false, hget_same, hget_hset_ite, ky_inj, Nat.reduceAdd, Nat.zero_add, rLen1_L Tryz.underlying24 hL, rLen1_L Tryz.underlying24 hM, hne, intOp_neq] <;> rfl)), (by first | rfl | (simp only [Nat.reduceLT, Tget_set, T.get_n, T.get_e, Nat.reduceEqDiff, Nat.reduceDiv, Nat.reduceMod, Nat.reduceSub, ↓reduceIte, if_true, if_false, hget_same, hget_hset_ite, ky_inj, Nat.reduceAdd, Nat.zero_add, rLen1_L Tryz.underlying24 hL, rLen1_L Tryz.underlying24 hM, hne, intOp_neq] <;> rfl)), (by first | rfl | (simp only [Nat.reduceLT, Tget_set, T.get_n, T.get_e, Nat.reduceEqDiff, Nat.reduceDiv, Nat.reduceMod, Nat.reduceSub, ↓reduceIte, if_true, if_false, hget_same, hget_hset_ite, ky_inj, Nat.reduceAdd, Nat.zero_add, rLen1_L Tryz.underlying24 hL, rLen1_L Tryz.underlying24 hM, hne, intOp_neq] <;> rfl)), (by first | rfl | (simp only [Nat.reduceLT, Tget_set, T.get_n, T.get_e, Nat.reduceEqDiff, Nat.reduceDiv, Nat.reduceMod, Nat.reduceSub, ↓reduceIte, if_true, if_false, hget_same, hget_hset_ite, ky_inj, Nat.reduceAdd, Nat.zero_add, rLen1_L Tryz.underlying24 hL, rLen1_L Tryz.underlying24 hM, hne, intOp_neq] <;> rfl)), fun j hj => absurd hj (Nat.not_lt_zero _)⟩
    rintro nn fr s1 ⟨lc, tt, h1, i, rfl, rfl, hi, rfl, hl0, hlc, hS, ht0, ht1, ht12, ht13, hI⟩
    by_cases hil : i < L.length
    · have hil2 : i < M.length := by omega
      obtain ⟨b, o, eo, cap, k0, n0, t0, rfl, hb0, hLi, r0⟩ := value_at hw hL hS hil
      obtain ⟨b2, o2, eo2, cap2, k1, n1, t1, rfl, hb1, hMi, r2⟩ := value_at hw hM hS hil2
      repeat' (first
      | with_reducible refine r_seq ?_
      | with_reducible refine r_next ?_
      | with_reducible refine r_block ?_
      | with_reducible refine r_seq_exit ?_
      | with_reducible refine r_seq_ret ?_
      | with_reducible refine r_blk_n ?_
      | with_reducible refine r_blk_ret ?_
      | with_reducible refine r_blk_hit ?_
      | with_reducible refine r_blk_miss rfl ?_
      | with_reducible refine r_skip ?_
      | with_reducible refine r_exit ?_
      | with_reducible refine r_ret ?_
      | with_reducible refine r_rq_exit ?_
      | with_reducible refine r_rq_ret ?_
      | ((with_reducible apply r_regA); (focus (simp only [List.append_eq, List.cons_append, List.nil_append] <;> rfl)); (focus (first | exact Nat.le_of_ble_eq_true rfl | (simp only [List.length_cons, List.length_nil]; omega))))
      | ((with_reducible refine r_reg (List.toList_toArray) ?_ ?_); focus (first | exact Nat.le_of_ble_eq_true rfl | (simp only [List.length_cons, List.length_nil]; omega)))
      | ((with_reducible apply r_end); focus (simp only [Nat.add_assoc, Nat.reduceAdd, Nat.zero_add] <;> rfl))
      | ((with_reducible (first | apply r_any | apply r_cond)); focus (simp only [↓reduceIte, clsOf, Fr.ev, ofV, ofA, ofS, put_mk, pureOp, pBin, binA, intOp_lss, Nat.reduceLT, Nat.reduceEqDiff, binA, stepOp, stV_mk, stepAny, wantedA_none, Tget_set, ht12, ht13, lt_t hil, intOp_add (inR_succ hil hs)] <;> rfl))
      | (with_reducible rw [ifQ_t])
      | (with_reducible rw [ifQ_f])
      | ((with_reducible apply (r_drawW (js := [0, 1, 2, 3, 4, 5, 6, 7, 8]))); (focus kernel_rfl); (focus kernel_rfl); (focus (first | exact Nat.le_of_ble_eq_true rfl | (simp only [List.length_cons, List.length_nil]; omega))))
      | ((with_reducible apply d_end); (focus (simp only [List.length_cons, List.length_nil, Nat.add_assoc, Nat.reduceAdd, Nat.zero_add] <;> rfl)))
      | ((with_reducible apply d_any); (focus rfl); (iterate 2 (focus (simp only [↓reduceIte, Bool.not_false, clsOf, Fr.ev, put_mk, pureOp, readOp, rLd, someAgg_s, pBin, binA, Nat.reduceLT, Nat.reduceEqDiff, loadA_w, loadW_a, binA, eqGuardOk, Bool.and_true, stepOp, stV_mk, sz115, ag115, stepAny, wantedA_none, readSelf, av_str, av_int, av_agg, avs_nil, avs_cons, pIA_s Tryz.underlying24 sz115 hil, pIA_s Tryz.underlying24 sz115 hil2, r0, r2, eqV100, eg115, Tget_set, ht0, ht1] <;> rfl))); (focus (first | exact SameH.refl _ | (simp only [sameT, sameS hw]; done))))
      | (with_reducible refine ifQ_intro ?_ ?_ <;> intro hb))
      · have hx : [AV.int .i64 k0, .int .i64 n0, .str t0] ≠ [.int .i64 k1, .int .i64 n1, .str t1] := fun hx => by rw [dec_t hx] at hb; cases hb
        subst hQ
        refine ret_back (by simp only [Tryz.results122, resultOf, resultsA, resultA, List.toList_toArray, Fr.ev, Tget_set, ↓reduceIte] <;> rfl) ⟨_, out_f ?_, ?_⟩
        · exact ne_idx hil hil2 (by rw [hLi, hMi]; exact hx)
        repeat (first | exact Same.base _ _ _ | exact hS | refine Same.hset hw ?_ (ky_le _ _))
      · have hx : [AV.int .i64 k0, .int .i64 n0, .str t0] = [.int .i64 k1, .int .i64 n1, .str t1] := dec_iff.1 (by simpa using hb)
        have hp : L[i] = M[i] := by rw [hLi, hMi]; exact hx
        refine r_rq_n (k := L.length - (i + 1)) (by omega) ⟨_, _, _, i + 1, rfl, rfl, by omega, rfl, by omega, by omega, hS, (by simp only [Tget_set, Nat.reduceEqDiff, ↓reduceIte, Tget_set, ht0] <;> rfl), (by simp only [Tget_set, Nat.reduceEqDiff, ↓reduceIte, Tget_set, ht1] <;> rfl), (by simp only [Tget_set, Nat.reduceEqDiff, ↓reduceIte, Tget_set, ht12] <;> rfl), (by simp only [Tget_set, ↓reduceIte, Tget_set] <;> rfl), fun j hj h1 h2 => by rcases Nat.lt_or_ge j i with hji | hji; exact hI j hji h1 h2; obtain rfl : j = i := (by omega); exact hp⟩
    · have hend : i = L.length := by omega
      repeat' (first
      | with_reducible refine r_seq ?_
      | with_reducible refine r_next ?_
      | with_reducible refine r_block ?_
      | with_reducible refine r_seq_exit ?_
      | with_reducible refine r_seq_ret ?_
      | with_reducible refine r_blk_n ?_
      | with_reducible refine r_blk_ret ?_
      | with_reducible refine r_blk_hit ?_
      | with_reducible refine r_blk_miss rfl ?_
      | with_reducible refine r_skip ?_
      | with_reducible refine r_exit ?_
      | with_reducible refine r_ret ?_
      | with_reducible refine r_rq_exit ?_
      | with_reducible refine r_rq_ret ?_
      | ((with_reducible apply r_regA); (focus (simp only [List.append_eq, List.cons_append, List.nil_append] <;> rfl)); (focus (first | exact Nat.le_of_ble_eq_true rfl | (simp only [List.length_cons, List.length_nil]; omega))))
      | ((with_reducible refine r_reg (List.toList_toArray) ?_ ?_); focus (first | exact Nat.le_of_ble_eq_true rfl | (simp only [List.length_cons, List.length_nil]; omega)))
      | ((with_reducible apply r_end); focus (simp only [Nat.add_assoc, Nat.reduceAdd, Nat.zero_add] <;> rfl))
      | ((with_reducible (first | apply r_any | apply r_cond)); focus (simp only [↓reduceIte, clsOf, Fr.ev, ofV, ofA, ofS, put_mk, pureOp, pBin, binA, intOp_lss, Nat.reduceLT, binA, stepOp, stV_mk, stepAny, wantedA_none, Tget_set, ht12, ht13, lt_f hil] <;> rfl))
      | (with_reducible rw [ifQ_t])
      | (with_reducible rw [ifQ_f])
      | (with_reducible refine ifQ_intro ?_ ?_ <;> intro hb))
      · subst hQ
        refine ret_back (by simp only [Tryz.results122, resultOf, resultsA, resultA, List.toList_toArray, Fr.ev, Tget_set, ↓reduceIte] <;> rfl) ⟨_, out_t ?_, ?_⟩
        · exact eq_idx hLM fun j h1 h2 => hI j (by omega) h1 h2
        repeat (first | exact Same.base _ _ _ | exact hS | refine Same.hset hw ?_ (ky_le _ _))
theorem values122 (h : Heap) (F : Nat) (a a2 : AV) (L M : List (List AV)) (hL : LstP h ksV a L) (hM : LstP h ksV a2 M) : Snd Tryz.prog [] 122 [a, a2] ⟨h, F⟩ [.val (.bool (dec (L = M))) ⟨h, F⟩] := by
  by_cases hLM : L.length = M.length
  · exact values122_in h F a a2 L M hL hM hLM
  refine snd_val (by simp [Kin]) fun hw => ?_
  have hne : ((L.length : Int) != (M.length : Int)) = true := by simp; omega
  refine sndQ_body (K := K0) kok0 mixed noNum (m := 0) Tryz.func122 ?_
  generalize hQ : retQ _ _ _ _ _ _ = Q0
  refine body_go (c := Tryz.f122.body.getD .skip) (n := 26) rfl rfl (by simp only [↓reduceIte, T.setList, T.set_e, T.set_n, Nat.reduceDiv, Nat.reduceMod, Nat.reduceEqDiff, Nat.zero_add] <;> rfl) ?_
  simp only [Tryz.f122, Option.getD_some]
  repeat' (first
  | with_reducible refine r_seq ?_
  | with_reducible refine r_next ?_
  | with_reducible refine r_block ?_
  | with_reducible refine r_seq_exit ?_
  | with_reducible refine r_seq_ret ?_
  | with_reducible refine r_blk_n ?_
  | with_reducible refine r_blk_ret ?_
  | with_reducible refine r_blk_hit ?_
  | with_reducible refine r_blk_miss rfl ?_
  | with_reducible refine r_skip ?_
  | with_reducible refine r_exit ?_
  | with_reducible refine r_ret ?_
  | with_reducible refine r_rq_exit ?_
  | with_reducible refine r_rq_ret ?_
  | ((with_reducible apply r_regA); (focus (simp only [List.append_eq, List.cons_append, List.nil_append] <;> rfl)); (focus (first | exact Nat.le_of_ble_eq_true rfl | (simp only [List.length_cons, List.length_nil]; omega))))
  | ((with_reducible refine r_reg (List.toList_toArray) ?_ ?_); focus (first | exact Nat.le_of_ble_eq_true rfl | (simp only [List.length_cons, List.length_nil]; omega)))
  | ((with_reducible apply r_end); focus (simp only [Nat.reduceAdd, Nat.zero_add] <;> rfl))
  | ((with_reducible (first | apply r_any | apply r_cond)); focus (simp only [↓reduceIte, clsOf, clsCall, Fr.ev, ofV, ofA, ofS, put_mk, pureOp, readOp, pBin, binA, intOp_neq, List.getElem?_cons_zero, Nat.reduceLT, Nat.reduceEqDiff, Nat.reduceSub, binA, stepOp, stV_mk, T.get_n, T.set_n, T.set_e, Nat.reduceDiv, Nat.reduceMod, stepAny, wantedA_none, rCall, rLen, rLen1_L Tryz.underlying24 hL, rLen1_L Tryz.underlying24 hM, hne, intOp_neq] <;> rfl))
  | (with_reducible rw [ifQ_t])
  | (with_reducible rw [ifQ_f])
  | (with_reducible refine ifQ_intro ?_ ?_ <;> intro hb))
  subst hQ
  refine ret_back (by simp only [Tryz.results122, resultOf, resultsA, resultA, List.toList_toArray, Fr.ev, T.get_n, Nat.reduceDiv, Nat.reduceMod, Nat.reduceSub, Nat.reduceEqDiff, ↓reduceIte] <;> rfl) ⟨_, out_f ?_, ?_⟩
  · exact ne_len hLM
  repeat (first | exact Same.base _ _ _ | exact Same.refl _ | refine Same.hset hw ?_ (ky_le _ _))

theorem texts120_in (h : Heap) (F : Nat) (a a2 : AV) (L M : List (List AV)) (hL : LstP h ksT a L) (hM : LstP h ksT a2 M) (hLM : L.length = M.length) : Snd Tryz.prog [] 120 [a, a2] ⟨h, F⟩ [.val (.bool (dec (L = M))) ⟨h, F⟩] := by
  have mxl : maxLen = 9223372036854775807 := by decide
  refine snd_val (by simp [Kin]) fun hw => ?_
  have hs := hL.len
  have hne : ((L.length : Int) != (M.length : Int)) = false := by simp [hLM]
  refine sndQ_body (K := K0) kok0 mixed noNum (m := L.length + 1) Tryz.func120 ?_
  generalize hQ : retQ _ _ _ _ _ _ = Q0
  refine body_go (c := Tryz.f120.body.getD .skip) (n := 26) rfl rfl (by simp only [↓reduceIte, T.setList, T.set_e, T.set_n, Nat.reduceDiv, Nat.reduceMod, Nat.reduceEqDiff, Nat.zero_add] <;> rfl) ?_
  simp only [Tryz.f120, Option.getD_some]
  repeat' (first
  | with_reducible refine r_seq ?_
  | with_reducible refine r_next ?_
  | with_reducible refine r_block ?_
  | with_reducible refine r_seq_exit ?_
  | with_reducible refine r_seq_ret ?_
  | with_reducible refine r_blk_n ?_
  | with_reducible refine r_blk_ret ?_
  | with_reducible refine r_blk_hit ?_
  | with_reducible refine r_blk_miss rfl ?_
  | with_reducible refine r_skip ?_
  | with_reducible refine r_exit ?_
  | with_reducible refine r_ret ?_
  | with_reducible refine r_rq_exit ?_
  | with_reducible refine r_rq_ret ?_
  | ((with_reducible apply r_regA); (focus (simp only [List.append_eq, List.cons_append, List.nil_append] <;> rfl)); (focus (first | exact Nat.le_of_ble_eq_true rfl | (simp only [List.length_cons, List.length_nil]; omega))))
  | ((with_reducible refine r_reg (List.toList_toArray) ?_ ?_); focus (first | exact Nat.le_of_ble_eq_true rfl | (simp only [List.length_cons, List.length_nil]; omega)))
  | ((with_reducible apply r_end); focus (simp only [Nat.reduceAdd, Nat.zero_add] <;> rfl))
  | ((with_reducible (first | apply r_any | apply r_cond)); focus (simp only [↓reduceIte, clsOf, clsCall, Fr.ev, ofV, ofA, ofS, put_mk, pureOp, readOp, pBin, binA, intOp_neq, List.getElem?_cons_zero, Nat.reduceLT, Nat.reduceEqDiff, Nat.reduceSub, binA, stepOp, stV_mk, T.get_n, T.set_n, T.set_e, Nat.reduceDiv, Nat.reduceMod, stepAny, wantedA_none, rCall, rLen, rLen1_L Tryz.underlying37 hL, rLen1_L Tryz.underlying37 hM, hne, intOp_neq] <;> rfl))
  | (with_reducible rw [ifQ_t])
  | (with_reducible rw [ifQ_f])
  | (with_reducible refine ifQ_intro ?_ ?_ <;> intro hb))
  · refine r_loop (I := fun nn fr s1 => ∃ lc tt h1 i, fr = ⟨F, lc, 26, tt, [], .no⟩ ∧ s1 = ⟨h1, F + 1⟩ ∧ i ≤ L.length ∧ nn = L.length - i ∧ 2 ≤ lc ∧ lc + nn * 1000 ≤ 100000000000000000000000000 ∧ SameH h h1 ∧ tt.get 0 = some (a) ∧ tt.get 1 = some (a2) ∧ tt.get 5 = some (.int .i64 i) ∧ (∀ j (hj : j < i) (h1 : j < L.length) (h2 : j < M.length), L[j] = M[j])) (n := L.length) ?_ ?_ ?_
    · omega
    · exact ⟨_, _, _, 0, rfl, rfl, Nat.zero_le _, (Nat.sub_zero _).symm, by first | omega | exact Nat.le_of_ble_eq_true rfl, by omega, (by repeat (first | exact SameH.refl _ | refine SameH.hset hw ?_ (ky_le _ _))), (by first | rfl | (simp only [Nat.reduceLT, Tget_set, T.get_n, T.get_e, Nat.reduceEqDiff, Nat.reduceDiv, Nat.reduceMod, Nat.reduceSub, ↓reduceIte, if_true, if_false, hget_same, hget_hset_ite, ky_inj, Nat.reduceAdd, Nat.zero_add, rLen1_L Tryz.underlying37 hL, rLen1_L Tryz.underlying37 hM, hne, intOp_neq] <;> rfl)), (by first | rfl | (simp only [Nat.reduceLT, Tget_set, T.get_n, T.get_e, Nat.reduceEqDiff, Nat.reduceDiv, Nat.reduceMod, Nat.reduceSub, ↓reduceIte, if_true, if_false, hget_same, hget_hset_ite, ky_inj, Nat.reduceAdd, Nat.zero_add, rLen1_L Tryz.underlying37 hL, rLen1_L Tryz.underlying37 hM, hne, intOp_neq] <;> rfl)), (by first | rfl | (simp only [Nat.reduceLT, Tget_set, T.get_n, T.get_e, Nat.reduceEqDiff, Nat.reduceDiv, Nat.reduceMod, Nat.reduceSub, ↓reduceIte, if_true, if_false, hget_same, hget_hset_ite, ky_inj, Nat.reduceAdd, Nat.zero_add, rLen1_L Tryz.underlying37 hL, rLen1_L Tryz.underlying37 hM, hne, intOp_neq] <;> rfl)), fun j hj => absurd hj (Nat.not_lt_zero _)⟩
    rintro nn fr s1 ⟨lc, tt, h1, i, rfl, rfl, hi, rfl, hl0, hlc, hS, ht0, ht1, ht5, hI⟩
    by_cases hil : i < L.length
    · have hil2 : i < M.length := by omega
      obtain ⟨b, o, eo, cap, s0, rfl, hb0, hLi, r0⟩ := text_at hw hL hS hil
      obtain ⟨b2, o2, eo2, cap2, s1, rfl, hb1, hMi, r2⟩ := text_at hw hM hS hil2
      repeat' (first
      | with_reducible refine r_seq ?_
      | with_reducible refine r_next ?_
      | with_reducible refine r_block ?_
      | with_reducible refine r_seq_exit ?_
      | with_reducible refine r_seq_ret ?_
      | with_reducible refine r_blk_n ?_
      | with_reducible refine r_blk_ret ?_
      | with_reducible refine r_blk_hit ?_
      | with_reducible refine r_blk_miss rfl ?_
      | with_reducible refine r_skip ?_
      | with_reducible refine r_exit ?_
      | with_reducible refine r_ret ?_
      | with_reducible refine r_rq_exit ?_
      | with_reducible refine r_rq_ret ?_
      | ((with_reducible apply r_regA); (focus (simp only [List.append_eq, List.cons_append, List.nil_append] <;> rfl)); (focus (first | exact Nat.le_of_ble_eq_true rfl | (simp only [List.length_cons, List.length_nil]; omega))))
      | ((with_reducible refine r_reg (List.toList_toArray) ?_ ?_); focus (first | exact Nat.le_of_ble_eq_true rfl | (simp only [List.length_cons, List.length_nil]; omega)))
      | ((with_reducible apply r_end); focus (simp only [Nat.add_assoc, Nat.reduceAdd, Nat.zero_add] <;> rfl))
      | ((with_reducible (first | apply r_any | apply r_cond)); focus (simp only [↓reduceIte, clsOf, clsCall, Fr.ev, ofV, ofA, ofS, put_mk, pureOp, readOp, pBin, binA, intOp_lss, List.getElem?_cons_zero, Nat.reduceLT, Nat.reduceEqDiff, binA, stepOp, stV_mk, Tryz.underlying37, stepAny, wantedA_none, rCall, rLen, rLen1_sl, lenA, Tget_set, ht0, ht5, lt_t hil, intOp_add (inR_succ hil hs)] <;> rfl))
      | (with_reducible rw [ifQ_t])
      | (with_reducible rw [ifQ_f])
      | ((with_reducible apply (r_drawW (js := [0, 1, 2, 3, 4, 5, 6, 7, 8]))); (focus kernel_rfl); (focus kernel_rfl); (focus (first | exact Nat.le_of_ble_eq_true rfl | (simp only [List.length_cons, List.length_nil]; omega))))
      | ((with_reducible apply d_end); (focus (simp only [List.length_cons, List.length_nil, Nat.add_assoc, Nat.reduceAdd, Nat.zero_add] <;> rfl)))
      | ((with_reducible apply d_any); (focus rfl); (iterate 2 (focus (simp only [↓reduceIte, clsOf, Fr.ev, put_mk, pureOp, readOp, rLd, oneCell_one, pBin, binA, Nat.reduceLT, Nat.reduceEqDiff, loadA_w, loadW_s, binA, stepOp, stV_mk, sz9, ag9, stepAny, wantedA_none, readSelf, av_str, strOp, pIA_s Tryz.underlying37 sz9 hil, pIA_s Tryz.underlying37 sz9 hil2, r0, r2, Tget_set, ht0, ht1, ht5] <;> rfl))); (focus (first | exact SameH.refl _ | (simp only [sameT, sameS hw]; done))))
      | (with_reducible refine ifQ_intro ?_ ?_ <;> intro hb))
      · have hx : [AV.str s0] ≠ [AV.str s1] := fun hx => by cases hx; simp at hb
        subst hQ
        refine ret_back (by simp only [Tryz.results120, resultOf, resultsA, resultA, List.toList_toArray, Fr.ev, Tget_set, ↓reduceIte] <;> rfl) ⟨_, out_f ?_, ?_⟩
        · exact ne_idx hil hil2 (by rw [hLi, hMi]; exact hx)
        repeat (first | exact Same.base _ _ _ | exact hS | refine Same.hset hw ?_ (ky_le _ _))
      · have hx : [AV.str s0] = [AV.str s1] := by simp at hb; rw [hb]
        have hp : L[i] = M[i] := by rw [hLi, hMi]; exact hx
        refine r_rq_n (k := L.length - (i + 1)) (by omega) ⟨_, _, _, i + 1, rfl, rfl, by omega, rfl, by omega, by omega, hS, (by simp only [Tget_set, Nat.reduceEqDiff, ↓reduceIte, Tget_set, ht0] <;> rfl), (by simp only [Tget_set, Nat.reduceEqDiff, ↓reduceIte, Tget_set, ht1] <;> rfl), (by simp only [Tget_set, ↓reduceIte, Tget_set] <;> rfl), fun j hj h1 h2 => by rcases Nat.lt_or_ge j i with hji | hji; exact hI j hji h1 h2; obtain rfl : j = i := (by omega); exact hp⟩
    · have hend : i = L.length := by omega
      repeat' (first
      | with_reducible refine r_seq ?_
      | with_reducible refine r_next ?_
      | with_reducible refine r_block ?_
      | with_reducible refine r_seq_exit ?_
      | with_reducible refine r_seq_ret ?_
      | with_reducible refine r_blk_n ?_
      | with_reducible refine r_blk_ret ?_
      | with_reducible refine r_blk_hit ?_
      | with_reducible refine r_blk_miss rfl ?_
      | with_reducible refine r_skip ?_
      | with_reducible refine r_exit ?_
      | with_reducible refine r_ret ?_
      | with_reducible refine r_rq_exit ?_
      | with_reducible refine r_rq_ret ?_
      | ((with_reducible apply r_regA); (focus (simp only [List.append_eq, List.cons_append, List.nil_append] <;> rfl)); (focus (first | exact Nat.le_of_ble_eq_true rfl | (simp only [List.length_cons, List.length_nil]; omega))))
      | ((with_reducible refine r_reg (List.toList_toArray) ?_ ?_); focus (first | exact Nat.le_of_ble_eq_true rfl | (simp only [List.length_cons, List.length_nil]; omega)))
      | ((with_reducible apply r_end); focus (simp only [Nat.add_assoc, Nat.reduceAdd, Nat.zero_add] <;> rfl))
      | ((with_reducible (first | apply r_any | apply r_cond)); focus (simp only [↓reduceIte, clsOf, clsCall, Fr.ev, ofV, ofA, ofS, put_mk, pureOp, readOp, pBin, binA, intOp_lss, List.getElem?_cons_zero, Nat.reduceLT, Nat.reduceEqDiff, binA, stepOp, stV_mk, stepAny, wantedA_none, rCall, rLen, Tget_set, ht0, ht5, lt_f hil, rLen1_L Tryz.underlying37 hL] <;> rfl))
      | (with_reducible rw [ifQ_t])
      | (with_reducible rw [ifQ_f])
      | (with_reducible refine ifQ_intro ?_ ?_ <;> intro hb))
      · subst hQ
        refine ret_back (by simp only [Tryz.results120, resultOf, resultsA, resultA, List.toList_toArray, Fr.ev, Tget_set, ↓reduceIte] <;> rfl) ⟨_, out_t ?_, ?_⟩
        · exact eq_idx hLM fun j h1 h2 => hI j (by omega) h1 h2
        repeat (first | exact Same.base _ _ _ | exact hS | refine Same.hset hw ?_ (ky_le _ _))
theorem texts120 (h : Heap) (F : Nat) (a a2 : AV) (L M : List (List AV)) (hL : LstP h ksT a L) (hM : LstP h ksT a2 M) : Snd Tryz.prog [] 120 [a, a2] ⟨h, F⟩ [.val (.bool (dec (L = M))) ⟨h, F⟩] := by
  by_cases hLM : L.length = M.length
  · exact texts120_in h F a a2 L M hL hM hLM
  refine snd_val (by simp [Kin]) fun hw => ?_
  have hne : ((L.length : Int) != (M.length : Int)) = true := by simp; omega
  refine sndQ_body (K := K0) kok0 mixed noNum (m := 0) Tryz.func120 ?_
  generalize hQ : retQ _ _ _ _ _ _ = Q0
  refine body_go (c := Tryz.f120.body.getD .skip) (n := 26) rfl rfl (by simp only [↓reduceIte, T.setList, T.set_e, T.set_n, Nat.reduceDiv, Nat.reduceMod, Nat.reduceEqDiff, Nat.zero_add] <;> rfl) ?_
  simp only [Tryz.f120, Option.getD_some]
  repeat' (first
  | with_reducible refine r_seq ?_
  | with_reducible refine r_next ?_
  | with_reducible refine r_block ?_
  | with_reducible refine r_seq_exit ?_
  | with_reducible refine r_seq_ret ?_
  | with_reducible refine r_blk_n ?_
  | with_reducible refine r_blk_ret ?_
  | with_reducible refine r_blk_hit ?_
  | with_reducible refine r_blk_miss rfl ?_
  | with_reducible refine r_skip ?_
  | with_reducible refine r_exit ?_
  | with_reducible refine r_ret ?_
  | with_reducible refine r_rq_exit ?_
  | with_reducible refine r_rq_ret ?_
  | ((with_reducible apply r_regA); (focus (simp only [List.append_eq, List.cons_append, List.nil_append] <;> rfl)); (focus (first | exact Nat.le_of_ble_eq_true rfl | (simp only [List.length_cons, List.length_nil]; omega))))
  | ((with_reducible refine r_reg (List.toList_toArray) ?_ ?_); focus (first | exact Nat.le_of_ble_eq_true rfl | (simp only [List.length_cons, List.length_nil]; omega)))
  | ((with_reducible apply r_end); focus (simp only [Nat.reduceAdd, Nat.zero_add] <;> rfl))
  | ((with_reducible (first | apply r_any | apply r_cond)); focus (simp only [↓reduceIte, clsOf, clsCall, Fr.ev, ofV, ofA, ofS, put_mk, pureOp, readOp, pBin, binA, intOp_neq, List.getElem?_cons_zero, Nat.reduceLT, Nat.reduceEqDiff, Nat.reduceSub, binA, stepOp, stV_mk, T.get_n, T.set_n, T.set_e, Nat.reduceDiv, Nat.reduceMod, stepAny, wantedA_none, rCall, rLen, rLen1_L Tryz.underlying37 hL, rLen1_L Tryz.underlying37 hM, hne, intOp_neq] <;> rfl))
  | (with_reducible rw [ifQ_t])
  | (with_reducible rw [ifQ_f])
  | (with_reducible refine ifQ_intro ?_ ?_ <;> intro hb))
  subst hQ
  refine ret_back (by simp only [Tryz.results120, resultOf, resultsA, resultA, List.toList_toArray, Fr.ev, T.get_n, Nat.reduceDiv, Nat.reduceMod, Nat.reduceSub, Nat.reduceEqDiff, ↓reduceIte] <;> rfl) ⟨_, out_f ?_, ?_⟩
  · exact ne_len hLM
  repeat (first | exact Same.base _ _ _ | exact Same.refl _ | refine Same.hset hw ?_ (ky_le _ _))


end Go.Proofs.YtneoghpfbgjaiaaGreatDoor

