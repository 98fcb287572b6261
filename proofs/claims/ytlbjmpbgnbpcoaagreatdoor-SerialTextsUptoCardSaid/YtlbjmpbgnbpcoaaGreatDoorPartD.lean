/- A part of the proof of the law SerialTexts. CONDITIONS: those that each theorem names. -/
import Derived.Test.YtlbjmpbgnbpcoaaGreatDoorEngineA
import Derived.Test.YtlbjmpbgnbpcoaaGreatDoorEngineB
import Derived.Test.YtlbjmpbgnbpcoaaGreatDoorEngineC
import Derived.Test.YtlbjmpbgnbpcoaaGreatDoorEngineD
import Derived.Test.YtlbjmpbgnbpcoaaGreatDoorEngineE
import Derived.Test.YtlbjmpbgnbpcoaaGreatDoorPartA
import Derived.Test.YtlbjmpbgnbpcoaaGreatDoorSTTypes
import Derived.Test.YtlbjmpbgnbpcoaaGreatDoorPartB
import Derived.Test.YtlbjmpbgnbpcoaaGreatDoorSTLay
import Derived.Test.YtlbjmpbgnbpcoaaGreatDoorPartC
namespace Go.Proofs.YtlbjmpbgnbpcoaaGreatDoor
open Go Go.Ai
set_option maxRecDepth 100000

theorem values40_in (h : Heap) (F : Nat) (a a2 : AV) (L M : List (List AV)) (hL : LstP h ksV a L) (hM : LstP h ksV a2 M) (hLM : L.length = M.length) : Snd Tryz.prog [] 40 [a, a2] ⟨h, F⟩ [.val (.bool (dec (L = M))) ⟨h, F⟩] := by
  have mxl : maxLen = 9223372036854775807 := by decide
  refine snd_val (by simp [Kin]) fun hw => ?_
  have hs := hL.len
  have hne : ((L.length : Int) != (M.length : Int)) = false := by simp [hLM]
  refine sndQ_body (K := K0) kok0 mixed noNum (m := L.length + 1) Tryz.func40 ?_
  generalize hQ : retQ _ _ _ _ _ _ = Q0
  refine body_go (c := Tryz.f40.body.getD .skip) (n := 26) rfl rfl (by simp only [↓reduceIte, T.setList, T.set_e, T.set_n, Nat.reduceDiv, Nat.reduceMod, Nat.reduceEqDiff, Nat.zero_add] <;> rfl) ?_
  simp only [Tryz.f40, Option.getD_some]
  repeat' (first
  | with_reducible refine r_seq ?_
  | with_reducible refine r_next ?_
  | with_reducible refine r_block ?_
  | with_reducible refine r_seq_exit ?_
  | with_reducible refine r_seq_ret ?_
  | with_reducible refine r_blk_n ?_
  | with_reducible refine r_blk_ret ?_
  | with_reducible refine r_blk_hit ?_
  | with_reducible refine r_blk_miss rfl ?_
  | with_reducible refine r_skip ?_
  | with_reducible refine r_exit ?_
  | with_reducible refine r_ret ?_
  | with_reducible refine r_rq_exit ?_
  | with_reducible refine r_rq_ret ?_
  | ((with_reducible apply r_regA); (focus (simp only [List.append_eq, List.cons_append, List.nil_append] <;> rfl)); (focus (first | exact Nat.le_of_ble_eq_true rfl | (simp only [List.length_cons, List.length_nil]; omega))))
  | ((with_reducible refine r_reg (List.toList_toArray) ?_ ?_); focus (first | exact Nat.le_of_ble_eq_true rfl | (simp only [List.length_cons, List.length_nil]; omega)))
  | ((with_reducible apply r_end); focus (simp only [Nat.reduceAdd, Nat.zero_add] <;> rfl))
  | ((with_reducible (first | apply r_any | apply r_cond)); focus (simp only [↓reduceIte, clsOf, clsCall, Fr.ev, ofV, ofA, ofS, put_mk, pureOp, readOp, pBin, binA, intOp_neq, List.getElem?_cons_zero, Nat.reduceLT, Nat.reduceEqDiff, Nat.reduceSub, binA, stepOp, stV_mk, T.get_n, T.set_n, T.set_e, Nat.reduceDiv, Nat.reduceMod, stepAny, wantedA_none, rCall, rLen, rLen1_L Tryz.underlying23 hL, rLen1_L Tryz.underlying23 hM, hne, intOp_neq] <;> rfl))
  | (with_reducible rw [ifQ_t])
  | (with_reducible rw [ifQ_f])
  | (with_reducible refine ifQ_intro ?_ ?_ <;> intro hb))
  · refine r_loop (I := fun nn fr s1 => ∃ lc tt h1 i, fr = ⟨F, lc, 26, tt, [], .no⟩ ∧ s1 = ⟨h1, F + 1⟩ ∧ i ≤ L.length ∧ nn = L.length - i ∧ 2 ≤ lc ∧ lc + nn * 1000 ≤ 100000000000000000000000000 ∧ SameH h h1 ∧ tt.get 0 = some (a) ∧ tt.get 1 = some (a2) ∧ tt.get 12 = some (.int .i64 L.length) ∧ tt.get 13 = some (.int .i64 i) ∧ (∀ j (hj : j < i) (h1 : j < L.length) (h2 : j < M.length), L[j] = M[j])) (n := L.length) ?_ ?_ ?_
    · omega
    · exact ⟨_, _, _, 0, rfl, rfl, Nat.zero_le _, (Nat.sub_zero _).symm, by first | omega | exact Nat.le_of_ble_eq_true rfl, by omega, (by repeat (first | exact SameH.refl _ | refine SameH.hset hw ?_ (ky_le _ _))), (by first | rfl | (simp only [Nat.reduceLT, Tget_set, T.get_n, T.get_e, Nat.reduceEqDiff, Nat.reduceDiv, Nat.reduceMod, Nat.reduceSub, ↓reduceIte, if_true, if_false, hget_same, hget_hset_ite, ky_inj, Nat.reduceAdd, Nat.zero_add, rLen1_L Tryz.underlying23 hL, rLen1_L Tryz.underlying23 hM, hne, intOp_neq] <;> rfl)), (by first | rfl | (simp only [Nat.reduceLT, Tget_set, T.get_n, T.get_e, Nat.reduceEqDiff, Nat.reduceDiv, Nat.reduceMod, Nat.reduceSub, ↓reduceIte, if_true, if_false, hget_same, hget_hset_ite, ky_inj, Nat.reduceAdd, Nat.zero_add, rLen1_L Tryz.underlying23 hL, rLen1_L Tryz.underlying23 hM, hne, intOp_neq] <;> rfl)), (by first | rfl | (simp only [Nat.reduceLT, Tget_set, T.get_n, T.get_e, Nat.reduceEqDiff, Nat.reduceDiv, Nat.reduceMod, Nat.reduceSub, ↓reduceIte, if_true, if_false, hget_same, hget_hset_ite, ky_inj, Nat.reduceAdd, Nat.zero_add, rLen1_L Tryz.underlying23 hL, rLen1_L Tryz.underlying23 hM, hne, intOp_neq] <;> rfl)), (by first | rfl | (simp only [Nat.reduceLT, Tget_set, T.get_n, T.get_e, Nat.reduceEqDiff, Nat.reduceDiv, Nat.reduceMod, Nat.reduceSub, ↓reduceIte, if_true, if_false, hget_same, hget_hset_ite, ky_inj, Nat.reduceAdd, Nat.zero_add, rLen1_L Tryz.underlying23 hL, rLen1_L Tryz.underlying23 hM, hne, intOp_neq] <;> rfl)), fun j hj => absurd hj (Nat.not_lt_zero _)⟩
    rintro nn fr s1 ⟨lc, tt, h1, i, rfl, rfl, hi, rfl, hl0, hlc, hS, ht0, ht1, ht12, ht13, hI⟩
    by_cases hil : i < L.length
    · have hil2 : i < M.length := by omega
      obtain ⟨b, o, eo, cap, k0, n0, t0, rfl, hb0, hLi, r0⟩ := value_at hw hL hS hil
      obtain ⟨b2, o2, eo2, cap2, k1, n1, t1, rfl, hb1, hMi, r2⟩ := value_at hw hM hS hil2
      repeat' (first
      | with_reducible refine r_seq ?_
      | with_reducible refine r_next ?_
      | with_reducible refine r_block ?_
      | with_reducible refine r_seq_exit ?_
      | with_reducible refine r_seq_ret ?_
      | with_reducible refine r_blk_n ?_
      | with_reducible refine r_blk_ret ?_
      | with_reducible refine r_blk_hit ?_
      | with_reducible refine r_blk_miss rfl ?_
      | with_reducible refine r_skip ?_
      | with_reducible refine r_exit ?_
      | with_reducible refine r_ret ?_
      | with_reducible refine r_rq_exit ?_
      | with_reducible refine r_rq_ret ?_
      | ((with_reducible apply r_regA); (focus (simp only [List.append_eq, List.cons_append, List.nil_append] <;> rfl)); (focus (first | exact Nat.le_of_ble_eq_true rfl | (simp only [List.length_cons, List.length_nil]; omega))))
      | ((with_reducible refine r_reg (List.toList_toArray) ?_ ?_); focus (first | exact Nat.le_of_ble_eq_true rfl | (simp only [List.length_cons, List.length_nil]; omega)))
      | ((with_reducible apply r_end); focus (simp only [Nat.add_assoc, Nat.reduceAdd, Nat.zero_add] <;> rfl))
      | ((with_reducible (first | apply r_any | apply r_cond)); focus (simp only [↓reduceIte, clsOf, Fr.ev, ofV, ofA, ofS, put_mk, pureOp, pBin, binA, intOp_lss, Nat.reduceLT, Nat.reduceEqDiff, binA, stepOp, stV_mk, stepAny, wantedA_none, Tget_set, ht12, ht13, lt_t hil, intOp_add (inR_succ hil hs)] <;> rfl))
      | (with_reducible rw [ifQ_t])
      | (with_reducible rw [ifQ_f])
      | ((with_reducible apply (r_drawW (js := [0, 1, 2, 3, 4, 5, 6, 7, 8]))); (focus kernel_rfl); (focus kernel_rfl); (focus (first | exact Nat.le_of_ble_eq_true rfl | (simp only [List.length_cons, List.length_nil]; omega))))
      | ((with_reducible apply d_end); (focus (simp only [List.length_cons, List.length_nil, Nat.add_assoc, Nat.reduceAdd, Nat.zero_add] <;> rfl)))
      | ((with_reducible apply d_any); (focus rfl); (iterate 2 (focus (simp only [↓reduceIte, Bool.not_false, clsOf, Fr.ev, put_mk, pureOp, readOp, rLd, someAgg_s, pBin, binA, Nat.reduceLT, Nat.reduceEqDiff, loadA_w, loadW_a, binA, eqGuardOk, Bool.and_true, stepOp, stV_mk, sz79, ag79, stepAny, wantedA_none, readSelf, av_str, av_int, av_agg, avs_nil, avs_cons, pIA_s Tryz.underlying23 sz79 hil, pIA_s Tryz.underlying23 sz79 hil2, r0, r2, eqV100, eg79, Tget_set, ht0, ht1] <;> rfl))); (focus (first | exact SameH.refl _ | (simp only [sameT, sameS hw]; done))))
      | (with_reducible refine ifQ_intro ?_ ?_ <;> intro hb))
      · have hx : [AV.int .i64 k0, .int .i64 n0, .str t0] ≠ [.int .i64 k1, .int .i64 n1, .str t1] := fun hx => by rw [dec_t hx] at hb; cases hb
        subst hQ
        refine ret_back (by simp only [Tryz.results40, resultOf, resultsA, resultA, List.toList_toArray, Fr.ev, Tget_set, ↓reduceIte] <;> rfl) ⟨_, out_f ?_, ?_⟩
        · exact ne_idx hil hil2 (by rw [hLi, hMi]; exact hx)
        repeat (first | exact Same.base _ _ _ | exact hS | refine Same.hset hw ?_ (ky_le _ _))
      · have hx : [AV.int .i64 k0, .int .i64 n0, .str t0] = [.int .i64 k1, .int .i64 n1, .str t1] := dec_iff.1 (by simpa using hb)
        have hp : L[i] = M[i] := by rw [hLi, hMi]; exact hx
        refine r_rq_n (k := L.length - (i + 1)) (by omega) ⟨_, _, _, i + 1, rfl, rfl, by omega, rfl, by omega, by omega, hS, (by simp only [Tget_set, Nat.reduceEqDiff, ↓reduceIte, Tget_set, ht0] <;> rfl), (by simp only [Tget_set, Nat.reduceEqDiff, ↓reduceIte, Tget_set, ht1] <;> rfl), (by simp only [Tget_set, Nat.reduceEqDiff, ↓reduceIte, Tget_set, ht12] <;> rfl), (by simp only [Tget_set, ↓reduceIte, Tget_set] <;> rfl), fun j hj h1 h2 => by rcases Nat.lt_or_ge j i with hji | hji; exact hI j hji h1 h2; obtain rfl : j = i := (by omega); exact hp⟩
    · have hend : i = L.length := by omega
      repeat' (first
      | with_reducible refine r_seq ?_
      | with_reducible refine r_next ?_
      | with_reducible refine r_block ?_
      | with_reducible refine r_seq_exit ?_
      | with_reducible refine r_seq_ret ?_
      | with_reducible refine r_blk_n ?_
      | with_reducible refine r_blk_ret ?_
      | with_reducible refine r_blk_hit ?_
      | with_reducible refine r_blk_miss rfl ?_
      | with_reducible refine r_skip ?_
      | with_reducible refine r_exit ?_
      | with_reducible refine r_ret ?_
      | with_reducible refine r_rq_exit ?_
      | with_reducible refine r_rq_ret ?_
      | ((with_reducible apply r_regA); (focus (simp only [List.append_eq, List.cons_append, List.nil_append] <;> rfl)); (focus (first | exact Nat.le_of_ble_eq_true rfl | (simp only [List.length_cons, List.length_nil]; omega))))
      | ((with_reducible refine r_reg (List.toList_toArray) ?_ ?_); focus (first | exact Nat.le_of_ble_eq_true rfl | (simp only [List.length_cons, List.length_nil]; omega)))
      | ((with_reducible apply r_end); focus (simp only [Nat.add_assoc, Nat.reduceAdd, Nat.zero_add] <;> rfl))
      | ((with_reducible (first | apply r_any | apply r_cond)); focus (simp only [↓reduceIte, clsOf, Fr.ev, ofV, ofA, ofS, put_mk, pureOp, pBin, binA, intOp_lss, Nat.reduceLT, binA, stepOp, stV_mk, stepAny, wantedA_none, Tget_set, ht12, ht13, lt_f hil] <;> rfl))
      | (with_reducible rw [ifQ_t])
      | (with_reducible rw [ifQ_f])
      | (with_reducible refine ifQ_intro ?_ ?_ <;> intro hb))
      · subst hQ
        refine ret_back (by simp only [Tryz.results40, resultOf, resultsA, resultA, List.toList_toArray, Fr.ev, Tget_set, ↓reduceIte] <;> rfl) ⟨_, out_t ?_, ?_⟩
        · exact eq_idx hLM fun j h1 h2 => hI j (by omega) h1 h2
        repeat (first | exact Same.base _ _ _ | exact hS | refine Same.hset hw ?_ (ky_le _ _))
theorem values40 (h : Heap) (F : Nat) (a a2 : AV) (L M : List (List AV)) (hL : LstP h ksV a L) (hM : LstP h ksV a2 M) : Snd Tryz.prog [] 40 [a, a2] ⟨h, F⟩ [.val (.bool (dec (L = M))) ⟨h, F⟩] := by
  by_cases hLM : L.length = M.length
  · exact values40_in h F a a2 L M hL hM hLM
  refine snd_val (by simp [Kin]) fun hw => ?_
  have hne : ((L.length : Int) != (M.length : Int)) = true := by simp; omega
  refine sndQ_body (K := K0) kok0 mixed noNum (m := 0) Tryz.func40 ?_
  generalize hQ : retQ _ _ _ _ _ _ = Q0
  refine body_go (c := Tryz.f40.body.getD .skip) (n := 26) rfl rfl (by simp only [↓reduceIte, T.setList, T.set_e, T.set_n, Nat.reduceDiv, Nat.reduceMod, Nat.reduceEqDiff, Nat.zero_add] <;> rfl) ?_
  simp only [Tryz.f40, Option.getD_some]
  repeat' (first
  | with_reducible refine r_seq ?_
  | with_reducible refine r_next ?_
  | with_reducible refine r_block ?_
  | with_reducible refine r_seq_exit ?_
  | with_reducible refine r_seq_ret ?_
  | with_reducible refine r_blk_n ?_
  | with_reducible refine r_blk_ret ?_
  | with_reducible refine r_blk_hit ?_
  | with_reducible refine r_blk_miss rfl ?_
  | with_reducible refine r_skip ?_
  | with_reducible refine r_exit ?_
  | with_reducible refine r_ret ?_
  | with_reducible refine r_rq_exit ?_
  | with_reducible refine r_rq_ret ?_
  | ((with_reducible apply r_regA); (focus (simp only [List.append_eq, List.cons_append, List.nil_append] <;> rfl)); (focus (first | exact Nat.le_of_ble_eq_true rfl | (simp only [List.length_cons, List.length_nil]; omega))))
  | ((with_reducible refine r_reg (List.toList_toArray) ?_ ?_); focus (first | exact Nat.le_of_ble_eq_true rfl | (simp only [List.length_cons, List.length_nil]; omega)))
  | ((with_reducible apply r_end); focus (simp only [Nat.reduceAdd, Nat.zero_add] <;> rfl))
  | ((with_reducible (first | apply r_any | apply r_cond)); focus (simp only [↓reduceIte, clsOf, clsCall, Fr.ev, ofV, ofA, ofS, put_mk, pureOp, readOp, pBin, binA, intOp_neq, List.getElem?_cons_zero, Nat.reduceLT, Nat.reduceEqDiff, Nat.reduceSub, binA, stepOp, stV_mk, T.get_n, T.set_n, T.set_e, Nat.reduceDiv, Nat.reduceMod, stepAny, wantedA_none, rCall, rLen, rLen1_L Tryz.underlying23 hL, rLen1_L Tryz.underlying23 hM, hne, intOp_neq] <;> rfl))
  | (with_reducible rw [ifQ_t])
  | (with_reducible rw [ifQ_f])
  | (with_reducible refine ifQ_intro ?_ ?_ <;> intro hb))
  subst hQ
  refine ret_back (by simp only [Tryz.results40, resultOf, resultsA, resultA, List.toList_toArray, Fr.ev, T.get_n, Nat.reduceDiv, Nat.reduceMod, Nat.reduceSub, Nat.reduceEqDiff, ↓reduceIte] <;> rfl) ⟨_, out_f ?_, ?_⟩
  · exact ne_len hLM
  repeat (first | exact Same.base _ _ _ | exact Same.refl _ | refine Same.hset hw ?_ (ky_le _ _))

theorem values71_in (h : Heap) (F : Nat) (a a2 : AV) (L M : List (List AV)) (hL : LstP h ksV a L) (hM : LstP h ksV a2 M) (hLM : L.length = M.length) : Snd Tryz.prog [] 71 [a, a2] ⟨h, F⟩ [.val (.bool (dec (L = M))) ⟨h, F⟩] := by
  have mxl : maxLen = 9223372036854775807 := by decide
  refine snd_val (by simp [Kin]) fun hw => ?_
  have hs := hL.len
  have hne : ((L.length : Int) != (M.length : Int)) = false := by simp [hLM]
  refine sndQ_body (K := K0) kok0 mixed noNum (m := L.length + 1) Tryz.func71 ?_
  generalize hQ : retQ _ _ _ _ _ _ = Q0
  refine body_go (c := Tryz.f71.body.getD .skip) (n := 26) rfl rfl (by simp only [↓reduceIte, T.setList, T.set_e, T.set_n, Nat.reduceDiv, Nat.reduceMod, Nat.reduceEqDiff, Nat.zero_add] <;> rfl) ?_
  simp only [Tryz.f71, Option.getD_some]
  repeat' (first
  | with_reducible refine r_seq ?_
  | with_reducible refine r_next ?_
  | with_reducible refine r_block ?_
  | with_reducible refine r_seq_exit ?_
  | with_reducible refine r_seq_ret ?_
  | with_reducible refine r_blk_n ?_
  | with_reducible refine r_blk_ret ?_
  | with_reducible refine r_blk_hit ?_
  | with_reducible refine r_blk_miss rfl ?_
  | with_reducible refine r_skip ?_
  | with_reducible refine r_exit ?_
  | with_reducible refine r_ret ?_
  | with_reducible refine r_rq_exit ?_
  | with_reducible refine r_rq_ret ?_
  | ((with_reducible apply r_regA); (focus (simp only [List.append_eq, List.cons_append, List.nil_append] <;> rfl)); (focus (first | exact Nat.le_of_ble_eq_true rfl | (simp only [List.length_cons, List.length_nil]; omega))))
  | ((with_reducible refine r_reg (List.toList_toArray) ?_ ?_); focus (first | exact Nat.le_of_ble_eq_true rfl | (simp only [List.length_cons, List.length_nil]; omega)))
  | ((with_reducible apply r_end); focus (simp only [Nat.reduceAdd, Nat.zero_add] <;> rfl))
  | ((with_reducible (first | apply r_any | apply r_cond)); focus (simp only [↓reduceIte, clsOf, clsCall, Fr.ev, ofV, ofA, ofS, put_mk, pureOp, readOp, pBin, binA, intOp_neq, List.getElem?_cons_zero, Nat.reduceLT, Nat.reduceEqDiff, Nat.reduceSub, binA, stepOp, stV_mk, T.get_n, T.set_n, T.set_e, Nat.reduceDiv, Nat.reduceMod, stepAny, wantedA_none, rCall, rLen, rLen1_L Tryz.underlying23 hL, rLen1_L Tryz.underlying23 hM, hne, intOp_neq] <;> rfl))
  | (with_reducible rw [ifQ_t])
  | (with_reducible rw [ifQ_f])
  | (with_reducible refine ifQ_intro ?_ ?_ <;> intro hb))
  · refine r_loop (I := fun nn fr s1 => ∃ lc tt h1 i, fr = ⟨F, lc, 26, tt, [], .no⟩ ∧ s1 = ⟨h1, F + 1⟩ ∧ i ≤ L.length ∧ nn = L.length - i ∧ 2 ≤ lc ∧ lc + nn * 1000 ≤ 100000000000000000000000000 ∧ SameH h h1 ∧ tt.get 0 = some (a) ∧ tt.get 1 = some (a2) ∧ tt.get 5 = some (.int .i64 i) ∧ (∀ j (hj : j < i) (h1 : j < L.length) (h2 : j < M.length), L[j] = M[j])) (n := L.length) ?_ ?_ ?_
    · omega
    · exact ⟨_, _, _, 0, rfl, rfl, Nat.zero_le _, (Nat.sub_zero _).symm, by first | omega | exact Nat.le_of_ble_eq_true rfl, by omega, (by repeat (first | exact SameH.refl _ | refine SameH.hset hw ?_ (ky_le _ _))), (by first | rfl | (simp only [Nat.reduceLT, Tget_set, T.get_n, T.get_e, Nat.reduceEqDiff, Nat.reduceDiv, Nat.reduceMod, Nat.reduceSub, ↓reduceIte, if_true, if_false, hget_same, hget_hset_ite, ky_inj, Nat.reduceAdd, Nat.zero_add, rLen1_L Tryz.underlying23 hL, rLen1_L Tryz.underlying23 hM, hne, intOp_neq] <;> rfl)), (by first | rfl | (simp only [Nat.reduceLT, Tget_set, T.get_n, T.get_e, Nat.reduceEqDiff, Nat.reduceDiv, Nat.reduceMod, Nat.reduceSub, ↓reduceIte, if_true, if_false, hget_same, hget_hset_ite, ky_inj, Nat.reduceAdd, Nat.zero_add, rLen1_L Tryz.underlying23 hL, rLen1_L Tryz.underlying23 hM, hne, intOp_neq] <;> rfl)), (by first | rfl | (simp only [Nat.reduceLT, Tget_set, T.get_n, T.get_e, Nat.reduceEqDiff, Nat.reduceDiv, Nat.reduceMod, Nat.reduceSub, ↓reduceIte, if_true, if_false, hget_same, hget_hset_ite, ky_inj, Nat.reduceAdd, Nat.zero_add, rLen1_L Tryz.underlying23 hL, rLen1_L Tryz.underlying23 hM, hne, intOp_neq] <;> rfl)), fun j hj => absurd hj (Nat.not_lt_zero _)⟩
    rintro nn fr s1 ⟨lc, tt, h1, i, rfl, rfl, hi, rfl, hl0, hlc, hS, ht0, ht1, ht5, hI⟩
    by_cases hil : i < L.length
    · have hil2 : i < M.length := by omega
      obtain ⟨b, o, eo, cap, k0, n0, t0, rfl, hb0, hLi, r0⟩ := value_at hw hL hS hil
      obtain ⟨b2, o2, eo2, cap2, k1, n1, t1, rfl, hb1, hMi, r2⟩ := value_at hw hM hS hil2
      repeat' (first
      | with_reducible refine r_seq ?_
      | with_reducible refine r_next ?_
      | with_reducible refine r_block ?_
      | with_reducible refine r_seq_exit ?_
      | with_reducible refine r_seq_ret ?_
      | with_reducible refine r_blk_n ?_
      | with_reducible refine r_blk_ret ?_
      | with_reducible refine r_blk_hit ?_
      | with_reducible refine r_blk_miss rfl ?_
      | with_reducible refine r_skip ?_
      | with_reducible refine r_exit ?_
      | with_reducible refine r_ret ?_
      | with_reducible refine r_rq_exit ?_
      | with_reducible refine r_rq_ret ?_
      | ((with_reducible apply r_regA); (focus (simp only [List.append_eq, List.cons_append, List.nil_append] <;> rfl)); (focus (first | exact Nat.le_of_ble_eq_true rfl | (simp only [List.length_cons, List.length_nil]; omega))))
      | ((with_reducible refine r_reg (List.toList_toArray) ?_ ?_); focus (first | exact Nat.le_of_ble_eq_true rfl | (simp only [List.length_cons, List.length_nil]; omega)))
      | ((with_reducible apply r_end); focus (simp only [Nat.add_assoc, Nat.reduceAdd, Nat.zero_add] <;> rfl))
      | ((with_reducible (first | apply r_any | apply r_cond)); focus (simp only [↓reduceIte, clsOf, clsCall, Fr.ev, ofV, ofA, ofS, put_mk, pureOp, readOp, pBin, binA, intOp_lss, List.getElem?_cons_zero, Nat.reduceLT, Nat.reduceEqDiff, binA, stepOp, stV_mk, Tryz.underlying23, stepAny, wantedA_none, rCall, rLen, rLen1_sl, lenA, Tget_set, ht0, ht5, lt_t hil, intOp_add (inR_succ hil hs)] <;> rfl))
      | (with_reducible rw [ifQ_t])
      | (with_reducible rw [ifQ_f])
      | ((with_reducible apply (r_drawW (js := [0, 1, 2, 3, 4, 5, 6, 7, 8]))); (focus kernel_rfl); (focus kernel_rfl); (focus (first | exact Nat.le_of_ble_eq_true rfl | (simp only [List.length_cons, List.length_nil]; omega))))
      | ((with_reducible apply d_end); (focus (simp only [List.length_cons, List.length_nil, Nat.add_assoc, Nat.reduceAdd, Nat.zero_add] <;> rfl)))
      | ((with_reducible apply d_any); (focus rfl); (iterate 2 (focus (simp only [↓reduceIte, Bool.not_false, clsOf, Fr.ev, put_mk, pureOp, readOp, rLd, someAgg_s, pBin, binA, Nat.reduceLT, Nat.reduceEqDiff, loadA_w, loadW_a, binA, eqGuardOk, Bool.and_true, stepOp, stV_mk, sz79, ag79, stepAny, wantedA_none, readSelf, av_str, av_int, av_agg, avs_nil, avs_cons, pIA_s Tryz.underlying23 sz79 hil, pIA_s Tryz.underlying23 sz79 hil2, r0, r2, eqV100, eg79, Tget_set, ht0, ht1, ht5] <;> rfl))); (focus (first | exact SameH.refl _ | (simp only [sameT, sameS hw]; done))))
      | (with_reducible refine ifQ_intro ?_ ?_ <;> intro hb))
      · have hx : [AV.int .i64 k0, .int .i64 n0, .str t0] ≠ [.int .i64 k1, .int .i64 n1, .str t1] := fun hx => by rw [dec_t hx] at hb; cases hb
        subst hQ
        refine ret_back (by simp only [Tryz.results71, resultOf, resultsA, resultA, List.toList_toArray, Fr.ev, Tget_set, ↓reduceIte] <;> rfl) ⟨_, out_f ?_, ?_⟩
        · exact ne_idx hil hil2 (by rw [hLi, hMi]; exact hx)
        repeat (first | exact Same.base _ _ _ | exact hS | refine Same.hset hw ?_ (ky_le _ _))
      · have hx : [AV.int .i64 k0, .int .i64 n0, .str t0] = [.int .i64 k1, .int .i64 n1, .str t1] := dec_iff.1 (by simpa using hb)
        have hp : L[i] = M[i] := by rw [hLi, hMi]; exact hx
        refine r_rq_n (k := L.length - (i + 1)) (by omega) ⟨_, _, _, i + 1, rfl, rfl, by omega, rfl, by omega, by omega, hS, (by simp only [Tget_set, Nat.reduceEqDiff, ↓reduceIte, Tget_set, ht0] <;> rfl), (by simp only [Tget_set, Nat.reduceEqDiff, ↓reduceIte, Tget_set, ht1] <;> rfl), (by simp only [Tget_set, ↓reduceIte, Tget_set] <;> rfl), fun j hj h1 h2 => by rcases Nat.lt_or_ge j i with hji | hji; exact hI j hji h1 h2; obtain rfl : j = i := (by omega); exact hp⟩
    · have hend : i = L.length := by omega
      repeat' (first
      | with_reducible refine r_seq ?_
      | with_reducible refine r_next ?_
      | with_reducible refine r_block ?_
      | with_reducible refine r_seq_exit ?_
      | with_reducible refine r_seq_ret ?_
      | with_reducible refine r_blk_n ?_
      | with_reducible refine r_blk_ret ?_
      | with_reducible refine r_blk_hit ?_
      | with_reducible refine r_blk_miss rfl ?_
      | with_reducible refine r_skip ?_
      | with_reducible refine r_exit ?_
      | with_reducible refine r_ret ?_
      | with_reducible refine r_rq_exit ?_
      | with_reducible refine r_rq_ret ?_
      | ((with_reducible apply r_regA); (focus (simp only [List.append_eq, List.cons_append, List.nil_append] <;> rfl)); (focus (first | exact Nat.le_of_ble_eq_true rfl | (simp only [List.length_cons, List.length_nil]; omega))))
      | ((with_reducible refine r_reg (List.toList_toArray) ?_ ?_); focus (first | exact Nat.le_of_ble_eq_true rfl | (simp only [List.length_cons, List.length_nil]; omega)))
      | ((with_reducible apply r_end); focus (simp only [Nat.add_assoc, Nat.reduceAdd, Nat.zero_add] <;> rfl))
      | ((with_reducible (first | apply r_any | apply r_cond)); focus (simp only [↓reduceIte, clsOf, clsCall, Fr.ev, ofV, ofA, ofS, put_mk, pureOp, readOp, pBin, binA, intOp_lss, List.getElem?_cons_zero, Nat.reduceLT, Nat.reduceEqDiff, binA, stepOp, stV_mk, stepAny, wantedA_none, rCall, rLen, Tget_set, ht0, ht5, lt_f hil, rLen1_L Tryz.underlying23 hL] <;> rfl))
      | (with_reducible rw [ifQ_t])
      | (with_reducible rw [ifQ_f])
      | (with_reducible refine ifQ_intro ?_ ?_ <;> intro hb))
      · subst hQ
        refine ret_back (by simp only [Tryz.results71, resultOf, resultsA, resultA, List.toList_toArray, Fr.ev, Tget_set, ↓reduceIte] <;> rfl) ⟨_, out_t ?_, ?_⟩
        · exact eq_idx hLM fun j h1 h2 => hI j (by omega) h1 h2
        repeat (first | exact Same.base _ _ _ | exact hS | refine Same.hset hw ?_ (ky_le _ _))
theorem values71 (h : Heap) (F : Nat) (a a2 : AV) (L M : List (List AV)) (hL : LstP h ksV a L) (hM : LstP h ksV a2 M) : Snd Tryz.prog [] 71 [a, a2] ⟨h, F⟩ [.val (.bool (dec (L = M))) ⟨h, F⟩] := by
  by_cases hLM : L.length = M.length
  · exact values71_in h F a a2 L M hL hM hLM
  refine snd_val (by simp [Kin]) fun hw => ?_
  have hne : ((L.length : Int) != (M.length : Int)) = true := by simp; omega
  refine sndQ_body (K := K0) kok0 mixed noNum (m := 0) Tryz.func71 ?_
  generalize hQ : retQ _ _ _ _ _ _ = Q0
  refine body_go (c := Tryz.f71.body.getD .skip) (n := 26) rfl rfl (by simp only [↓reduceIte, T.setList, T.set_e, T.set_n, Nat.reduceDiv, Nat.reduceMod, Nat.reduceEqDiff, Nat.zero_add] <;> rfl) ?_
  simp only [Tryz.f71, Option.getD_some]
  repeat' (first
  | with_reducible refine r_seq ?_
  | with_reducible refine r_next ?_
  | with_reducible refine r_block ?_
  | with_reducible refine r_seq_exit ?_
  | with_reducible refine r_seq_ret ?_
  | with_reducible refine r_blk_n ?_
  | with_reducible refine r_blk_ret ?_
  | with_reducible refine r_blk_hit ?_
  | with_reducible refine r_blk_miss rfl ?_
  | with_reducible refine r_skip ?_
  | with_reducible refine r_exit ?_
  | with_reducible refine r_ret ?_
  | with_reducible refine r_rq_exit ?_
  | with_reducible refine r_rq_ret ?_
  | ((with_reducible apply r_regA); (focus (simp only [List.append_eq, List.cons_append, List.nil_append] <;> rfl)); (focus (first | exact Nat.le_of_ble_eq_true rfl | (simp only [List.length_cons, List.length_nil]; omega))))
  | ((with_reducible refine r_reg (List.toList_toArray) ?_ ?_); focus (first | exact Nat.le_of_ble_eq_true rfl | (simp only [List.length_cons, List.length_nil]; omega)))
  | ((with_reducible apply r_end); focus (simp only [Nat.reduceAdd, Nat.zero_add] <;> rfl))
  | ((with_reducible (first | apply r_any | apply r_cond)); focus (simp only [↓reduceIte, clsOf, clsCall, Fr.ev, ofV, ofA, ofS, put_mk, pureOp, readOp, pBin, binA, intOp_neq, List.getElem?_cons_zero, Nat.reduceLT, Nat.reduceEqDiff, Nat.reduceSub, binA, stepOp, stV_mk, T.get_n, T.set_n, T.set_e, Nat.reduceDiv, Nat.reduceMod, stepAny, wantedA_none, rCall, rLen, rLen1_L Tryz.underlying23 hL, rLen1_L Tryz.underlying23 hM, hne, intOp_neq] <;> rfl))
  | (with_reducible rw [ifQ_t])
  | (with_reducible rw [ifQ_f])
  | (with_reducible refine ifQ_intro ?_ ?_ <;> intro hb))
  subst hQ
  refine ret_back (by simp only [Tryz.results71, resultOf, resultsA, resultA, List.toList_toArray, Fr.ev, T.get_n, Nat.reduceDiv, Nat.reduceMod, Nat.reduceSub, Nat.reduceEqDiff, ↓reduceIte] <;> rfl) ⟨_, out_f ?_, ?_⟩
  · exact ne_len hLM
  repeat (first | exact Same.base _ _ _ | exact Same.refl _ | refine Same.hset hw ?_ (ky_le _ _))


end Go.Proofs.YtlbjmpbgnbpcoaaGreatDoor

namespace Go.Proofs.YtlbjmpbgnbpcoaaGreatDoor
open Go Go.Ai
set_option maxRecDepth 100000

section
variable {S : FuncId → List AV → St → Out → Prop}
theorem isCell_L {h : Heap} {ks : List CK} {a : AV} {L : List (List AV)} (hl : LstP h ks a L) : isCell a = true := by
  rcases hl.2.2 with ⟨rfl | rfl, _⟩ | ⟨b, o, eo, cap, rfl, _⟩ <;> rfl
theorem k_vals40 {h h1 : Heap} {F : Nat} {a b : AV} {L M : List (List AV)} (hL : LstP h ksV a L) (hM : LstP h ksV b M) (hs : SameH h h1) : CallF.fn (KT S) 40 [a, b] ⟨h1, F⟩ = some [.val (.bool (dec (L = M))) ⟨h1, F⟩] :=
  kt_fn ((rfl : _ = spEq [a, b] ⟨h1, F⟩).trans (by simp only [spEq, lstOf_same hL hs, lstOf_same hM hs])) (snd_glob (values40 h1 F a b L M (hL.same hs) (hM.same hs)))
theorem k_vals71 {h h1 : Heap} {F : Nat} {a b : AV} {L M : List (List AV)} (hL : LstP h ksV a L) (hM : LstP h ksV b M) (hs : SameH h h1) : CallF.fn (KT S) 71 [a, b] ⟨h1, F⟩ = some [.val (.bool (dec (L = M))) ⟨h1, F⟩] :=
  kt_fn ((rfl : _ = spEq [a, b] ⟨h1, F⟩).trans (by simp only [spEq, lstOf_same hL hs, lstOf_same hM hs])) (snd_glob (values71 h1 F a b L M (hL.same hs) (hM.same hs)))
set_option maxHeartbeats 2000000 in
theorem sameA (h : Heap) (F : Nat) (q k c p q2 k2 c2 p2 : Int) (a b : AV) (L M : List (List AV)) (hL : LstP h ksV a L) (hM : LstP h ksV b M) : Snd Tryz.prog GL 39 [.agg [.int .i64 q, .int .i64 k, .int .i64 c, .int .i64 p, a], .agg [.int .i64 q2, .int .i64 k2, .int .i64 c2, .int .i64 p2, b]] ⟨h, F⟩ [.val (.bool (dec (q = q2 ∧ k = k2 ∧ c = c2 ∧ p = p2 ∧ L = M))) ⟨h, F⟩] := by
  refine snd_val (by simp [Kin]) fun hw => ?_
  by_cases hq : q = q2
  · have nq : (q == q2) = true := beq_iff_eq.2 hq
    by_cases hk : k = k2
    · have nk : (k == k2) = true := beq_iff_eq.2 hk
      by_cases hc : c = c2
      · have nc : (c == c2) = true := beq_iff_eq.2 hc
        by_cases hp : p = p2
        · have np : (p == p2) = true := beq_iff_eq.2 hp
          refine sndQ_body (K := (KT S0)) kt_ok mixed noNum (m := 0) Tryz.func39 ?_
          generalize hQ : retQ _ _ _ _ _ _ = Q0
          refine body_go (c := Tryz.f39.body.getD .skip) (n := 38) rfl rfl (by simp only [↓reduceIte, T.setList, T.set_e, T.set_n, Nat.reduceDiv, Nat.reduceMod, Nat.reduceEqDiff, Nat.zero_add] <;> rfl) ?_
          simp only [Tryz.f39, Option.getD_some]
          repeat' (first
          | with_reducible refine r_seq ?_
          | with_reducible refine r_next ?_
          | with_reducible refine r_block ?_
          | with_reducible refine r_seq_exit ?_
          | with_reducible refine r_seq_ret ?_
          | with_reducible refine r_blk_n ?_
          | with_reducible refine r_blk_ret ?_
          | with_reducible refine r_blk_hit ?_
          | with_reducible refine r_blk_miss rfl ?_
          | with_reducible refine r_skip ?_
          | with_reducible refine r_exit ?_
          | with_reducible refine r_ret ?_
          | with_reducible refine r_rq_exit ?_
          | with_reducible refine r_rq_ret ?_
          | ((with_reducible apply r_regA); (focus (simp only [List.append_eq, List.cons_append, List.nil_append] <;> rfl)); (focus (first | exact Nat.le_of_ble_eq_true rfl | (simp only [List.length_cons, List.length_nil]; omega))))
          | ((with_reducible refine r_reg (List.toList_toArray) ?_ ?_); focus (first | exact Nat.le_of_ble_eq_true rfl | (simp only [List.length_cons, List.length_nil]; omega)))
          | ((with_reducible apply r_drawL); (focus kernel_rfl); (focus kernel_rfl); (focus (first | exact Nat.le_of_ble_eq_true rfl | (simp only [List.length_cons, List.length_nil]; omega))))
          | ((with_reducible apply r_end); focus (simp only [Nat.reduceAdd, Nat.zero_add] <;> rfl))
          | ((with_reducible (first | apply r_move | apply r_assign)); (focus (simp only [T.get_n, Nat.reduceEqDiff, Nat.reduceDiv, Nat.reduceMod, Nat.reduceSub, ↓reduceIte] <;> rfl)); (focus (exact Nat.le_of_ble_eq_true rfl)))
          | ((with_reducible apply r_condT); (focus (simp only [Tget_set, T.get_n, T.get_e, Nat.reduceEqDiff, Nat.reduceDiv, Nat.reduceMod, Nat.reduceSub, ↓reduceIte, if_true, if_false] <;> rfl)))
          | ((with_reducible (first | apply r_any | apply r_cond)); focus (simp only [↓reduceIte, wantedA_eq, gBool_t, clsOf, clsCall, newBlk, allocOp, Fr.ev, evs, ofV, ofA, ofS, nVar, AV.cells, rowOf_mk, put_mk, upd_mk, keyOf_mk, ky_inj, pureOp, readOp, pFA, pFA1, pFA2, rLd, rdAB_row, oneCell_one, hget_same, hget_hset_ite, pBin, binA, intOp_eql, pPick, List.length_cons, List.length_nil, List.getElem?_cons_zero, List.getElem?_cons_succ, List.drop_zero, List.drop_succ_cons, List.take_succ_cons, List.take_zero, Nat.zero_add, Nat.add_zero, Nat.reduceAdd, Nat.reduceLT, Nat.reduceLeDiff, Nat.reduceEqDiff, Nat.reduceSub, Nat.add_eq, loadA_w, loadW_s, callTo_s, heavyCall, target, List.nil_append, List.append_nil, binA, stepOp, stHeavy, stV_mk, stB_mk, stO_mk, T.get_n, T.set_n, T.set_e, Nat.reduceDiv, Nat.reduceMod, sz2, ag2, sz3, ag3, sz23, ag23, Tryz.underlying25, stepAny, wantedA_none, nq, nk, nc, np, k_vals40 hL hM, sameS hw, sameT] <;> rfl))
          | (with_reducible rw [ifQ_t])
          | (with_reducible rw [ifQ_f])
          | (with_reducible refine ifQ_intro ?_ ?_ <;> intro hb))
          subst hQ
          refine ret_back (by simp only [Tryz.results39, resultOf, resultsA, resultA, List.toList_toArray, Fr.ev, Tget_set, ↓reduceIte] <;> rfl) ?_
          exact ⟨_, by rw [bool_dec (p := q = q2 ∧ k = k2 ∧ c = c2 ∧ p = p2 ∧ L = M) (b := dec (L = M)) (by simp [hq, hk, hc, hp, dec_iff])], by repeat (first | exact Same.base _ _ _ | refine Same.hset hw ?_ (ky_le _ _))⟩
        · have np : (p == p2) = false := beq_eq_false_iff_ne.2 hp
          refine sndQ_body (K := (KT S0)) kt_ok mixed noNum (m := 0) Tryz.func39 ?_
          generalize hQ : retQ _ _ _ _ _ _ = Q0
          refine body_go (c := Tryz.f39.body.getD .skip) (n := 38) rfl rfl (by simp only [↓reduceIte, T.setList, T.set_e, T.set_n, Nat.reduceDiv, Nat.reduceMod, Nat.reduceEqDiff, Nat.zero_add] <;> rfl) ?_
          simp only [Tryz.f39, Option.getD_some]
          repeat' (first
          | with_reducible refine r_seq ?_
          | with_reducible refine r_next ?_
          | with_reducible refine r_block ?_
          | with_reducible refine r_seq_exit ?_
          | with_reducible refine r_seq_ret ?_
          | with_reducible refine r_blk_n ?_
          | with_reducible refine r_blk_ret ?_
          | with_reducible refine r_blk_hit ?_
          | with_reducible refine r_blk_miss rfl ?_
          | with_reducible refine r_skip ?_
          | with_reducible refine r_exit ?_
          | with_reducible refine r_ret ?_
          | with_reducible refine r_rq_exit ?_
          | with_reducible refine r_rq_ret ?_
          | ((with_reducible apply r_regA); (focus (simp only [List.append_eq, List.cons_append, List.nil_append] <;> rfl)); (focus (first | exact Nat.le_of_ble_eq_true rfl | (simp only [List.length_cons, List.length_nil]; omega))))
          | ((with_reducible refine r_reg (List.toList_toArray) ?_ ?_); focus (first | exact Nat.le_of_ble_eq_true rfl | (simp only [List.length_cons, List.length_nil]; omega)))
          | ((with_reducible apply r_drawL); (focus kernel_rfl); (focus kernel_rfl); (focus (first | exact Nat.le_of_ble_eq_true rfl | (simp only [List.length_cons, List.length_nil]; omega))))
          | ((with_reducible apply r_end); focus (simp only [Nat.reduceAdd, Nat.zero_add] <;> rfl))
          | ((with_reducible (first | apply r_move | apply r_assign)); (focus (simp only [T.get_n, Nat.reduceEqDiff, Nat.reduceDiv, Nat.reduceMod, Nat.reduceSub, ↓reduceIte] <;> rfl)); (focus (exact Nat.le_of_ble_eq_true rfl)))
          | ((with_reducible apply r_condT); (focus (simp only [Tget_set, T.get_n, T.get_e, Nat.reduceEqDiff, Nat.reduceDiv, Nat.reduceMod, Nat.reduceSub, ↓reduceIte, if_true, if_false] <;> rfl)))
          | ((with_reducible (first | apply r_any | apply r_cond)); focus (simp only [↓reduceIte, wantedA_eq, gBool_t, clsOf, newBlk, allocOp, Fr.ev, ofV, ofA, ofS, nVar, AV.cells, rowOf_mk, put_mk, upd_mk, keyOf_mk, ky_inj, pureOp, readOp, pFA, pFA1, pFA2, rLd, rdAB_row, oneCell_one, hget_same, hget_hset_ite, pBin, binA, intOp_eql, pPick, List.length_cons, List.length_nil, List.getElem?_cons_zero, List.getElem?_cons_succ, List.drop_zero, List.drop_succ_cons, List.take_succ_cons, List.take_zero, Nat.zero_add, Nat.add_zero, Nat.reduceAdd, Nat.reduceLT, Nat.reduceLeDiff, Nat.reduceEqDiff, Nat.reduceSub, Nat.add_eq, loadA_w, loadW_s, binA, stepOp, stV_mk, stB_mk, T.get_n, T.set_n, T.set_e, Nat.reduceDiv, Nat.reduceMod, sz2, ag2, sz3, ag3, Tryz.underlying25, stepAny, wantedA_none, nq, nk, nc, np] <;> rfl))
          | (with_reducible rw [ifQ_t])
          | (with_reducible rw [ifQ_f])
          | (with_reducible refine ifQ_intro ?_ ?_ <;> intro hb))
          subst hQ
          refine ret_back (by simp only [Tryz.results39, resultOf, resultsA, resultA, List.toList_toArray, Fr.ev, Tget_set, ↓reduceIte] <;> rfl) ?_
          exact ⟨_, by rw [dec_f (p := q = q2 ∧ k = k2 ∧ c = c2 ∧ p = p2 ∧ L = M) (fun hA => hp hA.2.2.2.1)], by repeat (first | exact Same.base _ _ _ | refine Same.hset hw ?_ (ky_le _ _))⟩
      · have nc : (c == c2) = false := beq_eq_false_iff_ne.2 hc
        refine sndQ_body (K := (KT S0)) kt_ok mixed noNum (m := 0) Tryz.func39 ?_
        generalize hQ : retQ _ _ _ _ _ _ = Q0
        refine body_go (c := Tryz.f39.body.getD .skip) (n := 38) rfl rfl (by simp only [↓reduceIte, T.setList, T.set_e, T.set_n, Nat.reduceDiv, Nat.reduceMod, Nat.reduceEqDiff, Nat.zero_add] <;> rfl) ?_
        simp only [Tryz.f39, Option.getD_some]
        repeat' (first
        | with_reducible refine r_seq ?_
        | with_reducible refine r_next ?_
        | with_reducible refine r_block ?_
        | with_reducible refine r_seq_exit ?_
        | with_reducible refine r_seq_ret ?_
        | with_reducible refine r_blk_n ?_
        | with_reducible refine r_blk_ret ?_
        | with_reducible refine r_blk_hit ?_
        | with_reducible refine r_blk_miss rfl ?_
        | with_reducible refine r_skip ?_
        | with_reducible refine r_exit ?_
        | with_reducible refine r_ret ?_
        | with_reducible refine r_rq_exit ?_
        | with_reducible refine r_rq_ret ?_
        | ((with_reducible apply r_regA); (focus (simp only [List.append_eq, List.cons_append, List.nil_append] <;> rfl)); (focus (first | exact Nat.le_of_ble_eq_true rfl | (simp only [List.length_cons, List.length_nil]; omega))))
        | ((with_reducible refine r_reg (List.toList_toArray) ?_ ?_); focus (first | exact Nat.le_of_ble_eq_true rfl | (simp only [List.length_cons, List.length_nil]; omega)))
        | ((with_reducible apply r_drawL); (focus kernel_rfl); (focus kernel_rfl); (focus (first | exact Nat.le_of_ble_eq_true rfl | (simp only [List.length_cons, List.length_nil]; omega))))
        | ((with_reducible apply r_end); focus (simp only [Nat.reduceAdd, Nat.zero_add] <;> rfl))
        | ((with_reducible (first | apply r_move | apply r_assign)); (focus (simp only [T.get_n, Nat.reduceEqDiff, Nat.reduceDiv, Nat.reduceMod, Nat.reduceSub, ↓reduceIte] <;> rfl)); (focus (exact Nat.le_of_ble_eq_true rfl)))
        | ((with_reducible apply r_condT); (focus (simp only [Tget_set, T.get_n, T.get_e, Nat.reduceEqDiff, Nat.reduceDiv, Nat.reduceMod, Nat.reduceSub, ↓reduceIte, if_true, if_false] <;> rfl)))
        | ((with_reducible (first | apply r_any | apply r_cond)); focus (simp only [↓reduceIte, wantedA_eq, gBool_t, clsOf, newBlk, allocOp, Fr.ev, ofV, ofA, ofS, nVar, AV.cells, rowOf_mk, put_mk, upd_mk, keyOf_mk, ky_inj, pureOp, readOp, pFA, pFA1, pFA2, rLd, rdAB_row, oneCell_one, hget_same, hget_hset_ite, pBin, binA, intOp_eql, pPick, List.length_cons, List.length_nil, List.getElem?_cons_zero, List.getElem?_cons_succ, List.drop_zero, List.drop_succ_cons, List.take_succ_cons, List.take_zero, Nat.zero_add, Nat.add_zero, Nat.reduceAdd, Nat.reduceLT, Nat.reduceLeDiff, Nat.reduceEqDiff, Nat.reduceSub, Nat.add_eq, loadA_w, loadW_s, binA, stepOp, stV_mk, stB_mk, T.get_n, T.set_n, T.set_e, Nat.reduceDiv, Nat.reduceMod, sz2, ag2, sz3, ag3, Tryz.underlying25, stepAny, wantedA_none, nq, nk, nc] <;> rfl))
        | (with_reducible rw [ifQ_t])
        | (with_reducible rw [ifQ_f])
        | (with_reducible refine ifQ_intro ?_ ?_ <;> intro hb))
        subst hQ
        refine ret_back (by simp only [Tryz.results39, resultOf, resultsA, resultA, List.toList_toArray, Fr.ev, Tget_set, ↓reduceIte] <;> rfl) ?_
        exact ⟨_, by rw [dec_f (p := q = q2 ∧ k = k2 ∧ c = c2 ∧ p = p2 ∧ L = M) (fun hA => hc hA.2.2.1)], by repeat (first | exact Same.base _ _ _ | refine Same.hset hw ?_ (ky_le _ _))⟩
    · have nk : (k == k2) = false := beq_eq_false_iff_ne.2 hk
      refine sndQ_body (K := (KT S0)) kt_ok mixed noNum (m := 0) Tryz.func39 ?_
      generalize hQ : retQ _ _ _ _ _ _ = Q0
      refine body_go (c := Tryz.f39.body.getD .skip) (n := 38) rfl rfl (by simp only [↓reduceIte, T.setList, T.set_e, T.set_n, Nat.reduceDiv, Nat.reduceMod, Nat.reduceEqDiff, Nat.zero_add] <;> rfl) ?_
      simp only [Tryz.f39, Option.getD_some]
      repeat' (first
      | with_reducible refine r_seq ?_
      | with_reducible refine r_next ?_
      | with_reducible refine r_block ?_
      | with_reducible refine r_seq_exit ?_
      | with_reducible refine r_seq_ret ?_
      | with_reducible refine r_blk_n ?_
      | with_reducible refine r_blk_ret ?_
      | with_reducible refine r_blk_hit ?_
      | with_reducible refine r_blk_miss rfl ?_
      | with_reducible refine r_skip ?_
      | with_reducible refine r_exit ?_
      | with_reducible refine r_ret ?_
      | with_reducible refine r_rq_exit ?_
      | with_reducible refine r_rq_ret ?_
      | ((with_reducible apply r_regA); (focus (simp only [List.append_eq, List.cons_append, List.nil_append] <;> rfl)); (focus (first | exact Nat.le_of_ble_eq_true rfl | (simp only [List.length_cons, List.length_nil]; omega))))
      | ((with_reducible refine r_reg (List.toList_toArray) ?_ ?_); focus (first | exact Nat.le_of_ble_eq_true rfl | (simp only [List.length_cons, List.length_nil]; omega)))
      | ((with_reducible apply r_drawL); (focus kernel_rfl); (focus kernel_rfl); (focus (first | exact Nat.le_of_ble_eq_true rfl | (simp only [List.length_cons, List.length_nil]; omega))))
      | ((with_reducible apply r_end); focus (simp only [Nat.reduceAdd, Nat.zero_add] <;> rfl))
      | ((with_reducible (first | apply r_move | apply r_assign)); (focus (simp only [T.get_n, Nat.reduceEqDiff, Nat.reduceDiv, Nat.reduceMod, Nat.reduceSub, ↓reduceIte] <;> rfl)); (focus (exact Nat.le_of_ble_eq_true rfl)))
      | ((with_reducible apply r_condT); (focus (simp only [Tget_set, T.get_n, T.get_e, Nat.reduceEqDiff, Nat.reduceDiv, Nat.reduceMod, Nat.reduceSub, ↓reduceIte, if_true, if_false] <;> rfl)))
      | ((with_reducible (first | apply r_any | apply r_cond)); focus (simp only [↓reduceIte, wantedA_eq, gBool_t, clsOf, newBlk, allocOp, Fr.ev, ofV, ofA, ofS, nVar, AV.cells, rowOf_mk, put_mk, upd_mk, keyOf_mk, ky_inj, pureOp, readOp, pFA, pFA1, pFA2, rLd, rdAB_row, oneCell_one, hget_same, hget_hset_ite, pBin, binA, intOp_eql, pPick, List.length_cons, List.length_nil, List.getElem?_cons_zero, List.getElem?_cons_succ, List.drop_zero, List.drop_succ_cons, List.take_succ_cons, List.take_zero, Nat.zero_add, Nat.add_zero, Nat.reduceAdd, Nat.reduceLT, Nat.reduceLeDiff, Nat.reduceEqDiff, Nat.reduceSub, Nat.add_eq, loadA_w, loadW_s, binA, stepOp, stV_mk, stB_mk, T.get_n, T.set_n, T.set_e, Nat.reduceDiv, Nat.reduceMod, sz2, ag2, sz3, ag3, Tryz.underlying25, stepAny, wantedA_none, nq, nk] <;> rfl))
      | (with_reducible rw [ifQ_t])
      | (with_reducible rw [ifQ_f])
      | (with_reducible refine ifQ_intro ?_ ?_ <;> intro hb))
      subst hQ
      refine ret_back (by simp only [Tryz.results39, resultOf, resultsA, resultA, List.toList_toArray, Fr.ev, Tget_set, ↓reduceIte] <;> rfl) ?_
      exact ⟨_, by rw [dec_f (p := q = q2 ∧ k = k2 ∧ c = c2 ∧ p = p2 ∧ L = M) (fun hA => hk hA.2.1)], by repeat (first | exact Same.base _ _ _ | refine Same.hset hw ?_ (ky_le _ _))⟩
  · have nq : (q == q2) = false := beq_eq_false_iff_ne.2 hq
    refine sndQ_body (K := (KT S0)) kt_ok mixed noNum (m := 0) Tryz.func39 ?_
    generalize hQ : retQ _ _ _ _ _ _ = Q0
    refine body_go (c := Tryz.f39.body.getD .skip) (n := 38) rfl rfl (by simp only [↓reduceIte, T.setList, T.set_e, T.set_n, Nat.reduceDiv, Nat.reduceMod, Nat.reduceEqDiff, Nat.zero_add] <;> rfl) ?_
    simp only [Tryz.f39, Option.getD_some]
    repeat' (first
    | with_reducible refine r_seq ?_
    | with_reducible refine r_next ?_
    | with_reducible refine r_block ?_
    | with_reducible refine r_seq_exit ?_
    | with_reducible refine r_seq_ret ?_
    | with_reducible refine r_blk_n ?_
    | with_reducible refine r_blk_ret ?_
    | with_reducible refine r_blk_hit ?_
    | with_reducible refine r_blk_miss rfl ?_
    | with_reducible refine r_skip ?_
    | with_reducible refine r_exit ?_
    | with_reducible refine r_ret ?_
    | with_reducible refine r_rq_exit ?_
    | with_reducible refine r_rq_ret ?_
    | ((with_reducible apply r_regA); (focus (simp only [List.append_eq, List.cons_append, List.nil_append] <;> rfl)); (focus (first | exact Nat.le_of_ble_eq_true rfl | (simp only [List.length_cons, List.length_nil]; omega))))
    | ((with_reducible refine r_reg (List.toList_toArray) ?_ ?_); focus (first | exact Nat.le_of_ble_eq_true rfl | (simp only [List.length_cons, List.length_nil]; omega)))
    | ((with_reducible apply r_drawL); (focus kernel_rfl); (focus kernel_rfl); (focus (first | exact Nat.le_of_ble_eq_true rfl | (simp only [List.length_cons, List.length_nil]; omega))))
    | ((with_reducible apply r_end); focus (simp only [Nat.reduceAdd, Nat.zero_add] <;> rfl))
    | ((with_reducible (first | apply r_move | apply r_assign)); (focus (simp only [T.get_n, Nat.reduceEqDiff, Nat.reduceDiv, Nat.reduceMod, Nat.reduceSub, ↓reduceIte] <;> rfl)); (focus (exact Nat.le_of_ble_eq_true rfl)))
    | ((with_reducible apply r_condT); (focus (simp only [Tget_set, T.get_n, T.get_e, Nat.reduceEqDiff, Nat.reduceDiv, Nat.reduceMod, Nat.reduceSub, ↓reduceIte, if_true, if_false] <;> rfl)))
    | ((with_reducible (first | apply r_any | apply r_cond)); focus (simp only [↓reduceIte, wantedA_eq, gBool_t, clsOf, newBlk, allocOp, Fr.ev, ofV, ofA, ofS, nVar, AV.cells, rowOf_mk, put_mk, upd_mk, keyOf_mk, ky_inj, pureOp, readOp, pFA, pFA1, pFA2, rLd, rdAB_row, oneCell_one, hget_same, hget_hset_ite, pBin, binA, intOp_eql, pPick, List.length_cons, List.length_nil, List.getElem?_cons_zero, List.getElem?_cons_succ, List.drop_zero, List.take_succ_cons, List.take_zero, Nat.zero_add, Nat.add_zero, Nat.reduceAdd, Nat.reduceLT, Nat.reduceLeDiff, Nat.reduceEqDiff, Nat.reduceSub, Nat.add_eq, loadA_w, loadW_s, binA, stepOp, stV_mk, stB_mk, T.get_n, T.set_n, T.set_e, Nat.reduceDiv, Nat.reduceMod, sz2, ag2, Tryz.underlying25, stepAny, wantedA_none, nq] <;> rfl))
    | (with_reducible rw [ifQ_t])
    | (with_reducible rw [ifQ_f])
    | (with_reducible refine ifQ_intro ?_ ?_ <;> intro hb))
    subst hQ
    refine ret_back (by simp only [Tryz.results39, resultOf, resultsA, resultA, List.toList_toArray, Fr.ev, Tget_set, ↓reduceIte] <;> rfl) ?_
    exact ⟨_, by rw [dec_f (p := q = q2 ∧ k = k2 ∧ c = c2 ∧ p = p2 ∧ L = M) (fun hA => hq hA.1)], by repeat (first | exact Same.base _ _ _ | refine Same.hset hw ?_ (ky_le _ _))⟩
theorem k_sameA {h h1 : Heap} {F : Nat} {q k c p q2 k2 c2 p2 : Int} {a b : AV} {L M : List (List AV)} (hL : LstP h ksV a L) (hM : LstP h ksV b M) (hs : SameH h h1) : CallF.fn (KT S) 39 [.agg [.int .i64 q, .int .i64 k, .int .i64 c, .int .i64 p, a], .agg [.int .i64 q2, .int .i64 k2, .int .i64 c2, .int .i64 p2, b]] ⟨h1, F⟩ = some [.val (.bool (dec (q = q2 ∧ k = k2 ∧ c = c2 ∧ p = p2 ∧ L = M))) ⟨h1, F⟩] :=
  kt_fn ((rfl : _ = spSm [.agg [.int .i64 q, .int .i64 k, .int .i64 c, .int .i64 p, a], .agg [.int .i64 q2, .int .i64 k2, .int .i64 c2, .int .i64 p2, b]] ⟨h1, F⟩).trans (by simp only [spSm, lstOf_same hL hs, lstOf_same hM hs])) (sameA h1 F q k c p q2 k2 c2 p2 a b L M (hL.same hs) (hM.same hs))
set_option maxHeartbeats 2000000 in
theorem sameB (h : Heap) (F : Nat) (q k c p q2 k2 c2 p2 : Int) (a b : AV) (L M : List (List AV)) (hL : LstP h ksV a L) (hM : LstP h ksV b M) : Snd Tryz.prog GL 41 [.agg [.int .i64 q, .int .i64 k, .int .i64 c, .int .i64 p, a], .agg [.int .i64 q2, .int .i64 k2, .int .i64 c2, .int .i64 p2, b]] ⟨h, F⟩ [.val (.bool (dec (q = q2 ∧ k = k2 ∧ c = c2 ∧ p = p2 ∧ L = M))) ⟨h, F⟩] := by
  refine snd_val (by simp [Kin]) fun hw => ?_
  by_cases hq : q = q2
  · have nq : (q == q2) = true := beq_iff_eq.2 hq
    by_cases hk : k = k2
    · have nk : (k == k2) = true := beq_iff_eq.2 hk
      by_cases hc : c = c2
      · have nc : (c == c2) = true := beq_iff_eq.2 hc
        by_cases hp : p = p2
        · have np : (p == p2) = true := beq_iff_eq.2 hp
          refine sndQ_body (K := (KT S0)) kt_ok mixed noNum (m := 0) Tryz.func41 ?_
          generalize hQ : retQ _ _ _ _ _ _ = Q0
          refine body_go (c := Tryz.f41.body.getD .skip) (n := 38) rfl rfl (by simp only [↓reduceIte, T.setList, T.set_e, T.set_n, Nat.reduceDiv, Nat.reduceMod, Nat.reduceEqDiff, Nat.zero_add] <;> rfl) ?_
          simp only [Tryz.f41, Option.getD_some]
          repeat' (first
          | with_reducible refine r_seq ?_
          | with_reducible refine r_next ?_
          | with_reducible refine r_block ?_
          | with_reducible refine r_seq_exit ?_
          | with_reducible refine r_seq_ret ?_
          | with_reducible refine r_blk_n ?_
          | with_reducible refine r_blk_ret ?_
          | with_reducible refine r_blk_hit ?_
          | with_reducible refine r_blk_miss rfl ?_
          | with_reducible refine r_skip ?_
          | with_reducible refine r_exit ?_
          | with_reducible refine r_ret ?_
          | with_reducible refine r_rq_exit ?_
          | with_reducible refine r_rq_ret ?_
          | ((with_reducible apply r_regA); (focus (simp only [List.append_eq, List.cons_append, List.nil_append] <;> rfl)); (focus (first | exact Nat.le_of_ble_eq_true rfl | (simp only [List.length_cons, List.length_nil]; omega))))
          | ((with_reducible refine r_reg (List.toList_toArray) ?_ ?_); focus (first | exact Nat.le_of_ble_eq_true rfl | (simp only [List.length_cons, List.length_nil]; omega)))
          | ((with_reducible apply r_drawL); (focus kernel_rfl); (focus kernel_rfl); (focus (first | exact Nat.le_of_ble_eq_true rfl | (simp only [List.length_cons, List.length_nil]; omega))))
          | ((with_reducible apply r_end); focus (simp only [Nat.reduceAdd, Nat.zero_add] <;> rfl))
          | ((with_reducible (first | apply r_move | apply r_assign)); (focus (simp only [T.get_n, Nat.reduceEqDiff, Nat.reduceDiv, Nat.reduceMod, Nat.reduceSub, ↓reduceIte] <;> rfl)); (focus (exact Nat.le_of_ble_eq_true rfl)))
          | ((with_reducible apply r_condT); (focus (simp only [Tget_set, T.get_n, T.get_e, Nat.reduceEqDiff, Nat.reduceDiv, Nat.reduceMod, Nat.reduceSub, ↓reduceIte, if_true, if_false] <;> rfl)))
          | ((with_reducible (first | apply r_any | apply r_cond)); focus (simp only [↓reduceIte, wantedA_eq, gBool_t, clsOf, clsCall, newBlk, allocOp, Fr.ev, evs, ofV, ofA, ofS, nVar, AV.cells, rowOf_mk, put_mk, upd_mk, keyOf_mk, ky_inj, pureOp, readOp, pFA, pFA1, pFA2, rLd, rdAB_row, oneCell_one, hget_same, hget_hset_ite, pBin, binA, intOp_eql, pPick, List.length_cons, List.length_nil, List.getElem?_cons_zero, List.getElem?_cons_succ, List.drop_zero, List.drop_succ_cons, List.take_succ_cons, List.take_zero, Nat.zero_add, Nat.add_zero, Nat.reduceAdd, Nat.reduceLT, Nat.reduceLeDiff, Nat.reduceEqDiff, Nat.reduceSub, Nat.add_eq, loadA_w, loadW_s, callTo_s, heavyCall, target, List.nil_append, List.append_nil, binA, stepOp, stHeavy, stV_mk, stB_mk, stO_mk, T.get_n, T.set_n, T.set_e, Nat.reduceDiv, Nat.reduceMod, sz2, ag2, sz3, ag3, sz23, ag23, Tryz.underlying25, stepAny, wantedA_none, nq, nk, nc, np, k_vals71 hL hM, sameS hw, sameT] <;> rfl))
          | (with_reducible rw [ifQ_t])
          | (with_reducible rw [ifQ_f])
          | (with_reducible refine ifQ_intro ?_ ?_ <;> intro hb))
          subst hQ
          refine ret_back (by simp only [Tryz.results41, resultOf, resultsA, resultA, List.toList_toArray, Fr.ev, Tget_set, ↓reduceIte] <;> rfl) ?_
          exact ⟨_, by rw [bool_dec (p := q = q2 ∧ k = k2 ∧ c = c2 ∧ p = p2 ∧ L = M) (b := dec (L = M)) (by simp [hq, hk, hc, hp, dec_iff])], by repeat (first | exact Same.base _ _ _ | refine Same.hset hw ?_ (ky_le _ _))⟩
        · have np : (p == p2) = false := beq_eq_false_iff_ne.2 hp
          refine sndQ_body (K := (KT S0)) kt_ok mixed noNum (m := 0) Tryz.func41 ?_
          generalize hQ : retQ _ _ _ _ _ _ = Q0
          refine body_go (c := Tryz.f41.body.getD .skip) (n := 38) rfl rfl (by simp only [↓reduceIte, T.setList, T.set_e, T.set_n, Nat.reduceDiv, Nat.reduceMod, Nat.reduceEqDiff, Nat.zero_add] <;> rfl) ?_
          simp only [Tryz.f41, Option.getD_some]
          repeat' (first
          | with_reducible refine r_seq ?_
          | with_reducible refine r_next ?_
          | with_reducible refine r_block ?_
          | with_reducible refine r_seq_exit ?_
          | with_reducible refine r_seq_ret ?_
          | with_reducible refine r_blk_n ?_
          | with_reducible refine r_blk_ret ?_
          | with_reducible refine r_blk_hit ?_
          | with_reducible refine r_blk_miss rfl ?_
          | with_reducible refine r_skip ?_
          | with_reducible refine r_exit ?_
          | with_reducible refine r_ret ?_
          | with_reducible refine r_rq_exit ?_
          | with_reducible refine r_rq_ret ?_
          | ((with_reducible apply r_regA); (focus (simp only [List.append_eq, List.cons_append, List.nil_append] <;> rfl)); (focus (first | exact Nat.le_of_ble_eq_true rfl | (simp only [List.length_cons, List.length_nil]; omega))))
          | ((with_reducible refine r_reg (List.toList_toArray) ?_ ?_); focus (first | exact Nat.le_of_ble_eq_true rfl | (simp only [List.length_cons, List.length_nil]; omega)))
          | ((with_reducible apply r_drawL); (focus kernel_rfl); (focus kernel_rfl); (focus (first | exact Nat.le_of_ble_eq_true rfl | (simp only [List.length_cons, List.length_nil]; omega))))
          | ((with_reducible apply r_end); focus (simp only [Nat.reduceAdd, Nat.zero_add] <;> rfl))
          | ((with_reducible (first | apply r_move | apply r_assign)); (focus (simp only [T.get_n, Nat.reduceEqDiff, Nat.reduceDiv, Nat.reduceMod, Nat.reduceSub, ↓reduceIte] <;> rfl)); (focus (exact Nat.le_of_ble_eq_true rfl)))
          | ((with_reducible apply r_condT); (focus (simp only [Tget_set, T.get_n, T.get_e, Nat.reduceEqDiff, Nat.reduceDiv, Nat.reduceMod, Nat.reduceSub, ↓reduceIte, if_true, if_false] <;> rfl)))
          | ((with_reducible (first | apply r_any | apply r_cond)); focus (simp only [↓reduceIte, wantedA_eq, gBool_t, clsOf, newBlk, allocOp, Fr.ev, ofV, ofA, ofS, nVar, AV.cells, rowOf_mk, put_mk, upd_mk, keyOf_mk, ky_inj, pureOp, readOp, pFA, pFA1, pFA2, rLd, rdAB_row, oneCell_one, hget_same, hget_hset_ite, pBin, binA, intOp_eql, pPick, List.length_cons, List.length_nil, List.getElem?_cons_zero, List.getElem?_cons_succ, List.drop_zero, List.drop_succ_cons, List.take_succ_cons, List.take_zero, Nat.zero_add, Nat.add_zero, Nat.reduceAdd, Nat.reduceLT, Nat.reduceLeDiff, Nat.reduceEqDiff, Nat.reduceSub, Nat.add_eq, loadA_w, loadW_s, binA, stepOp, stV_mk, stB_mk, T.get_n, T.set_n, T.set_e, Nat.reduceDiv, Nat.reduceMod, sz2, ag2, sz3, ag3, Tryz.underlying25, stepAny, wantedA_none, nq, nk, nc, np] <;> rfl))
          | (with_reducible rw [ifQ_t])
          | (with_reducible rw [ifQ_f])
          | (with_reducible refine ifQ_intro ?_ ?_ <;> intro hb))
          subst hQ
          refine ret_back (by simp only [Tryz.results41, resultOf, resultsA, resultA, List.toList_toArray, Fr.ev, Tget_set, ↓reduceIte] <;> rfl) ?_
          exact ⟨_, by rw [dec_f (p := q = q2 ∧ k = k2 ∧ c = c2 ∧ p = p2 ∧ L = M) (fun hA => hp hA.2.2.2.1)], by repeat (first | exact Same.base _ _ _ | refine Same.hset hw ?_ (ky_le _ _))⟩
      · have nc : (c == c2) = false := beq_eq_false_iff_ne.2 hc
        refine sndQ_body (K := (KT S0)) kt_ok mixed noNum (m := 0) Tryz.func41 ?_
        generalize hQ : retQ _ _ _ _ _ _ = Q0
        refine body_go (c := Tryz.f41.body.getD .skip) (n := 38) rfl rfl (by simp only [↓reduceIte, T.setList, T.set_e, T.set_n, Nat.reduceDiv, Nat.reduceMod, Nat.reduceEqDiff, Nat.zero_add] <;> rfl) ?_
        simp only [Tryz.f41, Option.getD_some]
        repeat' (first
        | with_reducible refine r_seq ?_
        | with_reducible refine r_next ?_
        | with_reducible refine r_block ?_
        | with_reducible refine r_seq_exit ?_
        | with_reducible refine r_seq_ret ?_
        | with_reducible refine r_blk_n ?_
        | with_reducible refine r_blk_ret ?_
        | with_reducible refine r_blk_hit ?_
        | with_reducible refine r_blk_miss rfl ?_
        | with_reducible refine r_skip ?_
        | with_reducible refine r_exit ?_
        | with_reducible refine r_ret ?_
        | with_reducible refine r_rq_exit ?_
        | with_reducible refine r_rq_ret ?_
        | ((with_reducible apply r_regA); (focus (simp only [List.append_eq, List.cons_append, List.nil_append] <;> rfl)); (focus (first | exact Nat.le_of_ble_eq_true rfl | (simp only [List.length_cons, List.length_nil]; omega))))
        | ((with_reducible refine r_reg (List.toList_toArray) ?_ ?_); focus (first | exact Nat.le_of_ble_eq_true rfl | (simp only [List.length_cons, List.length_nil]; omega)))
        | ((with_reducible apply r_drawL); (focus kernel_rfl); (focus kernel_rfl); (focus (first | exact Nat.le_of_ble_eq_true rfl | (simp only [List.length_cons, List.length_nil]; omega))))
        | ((with_reducible apply r_end); focus (simp only [Nat.reduceAdd, Nat.zero_add] <;> rfl))
        | ((with_reducible (first | apply r_move | apply r_assign)); (focus (simp only [T.get_n, Nat.reduceEqDiff, Nat.reduceDiv, Nat.reduceMod, Nat.reduceSub, ↓reduceIte] <;> rfl)); (focus (exact Nat.le_of_ble_eq_true rfl)))
        | ((with_reducible apply r_condT); (focus (simp only [Tget_set, T.get_n, T.get_e, Nat.reduceEqDiff, Nat.reduceDiv, Nat.reduceMod, Nat.reduceSub, ↓reduceIte, if_true, if_false] <;> rfl)))
        | ((with_reducible (first | apply r_any | apply r_cond)); focus (simp only [↓reduceIte, wantedA_eq, gBool_t, clsOf, newBlk, allocOp, Fr.ev, ofV, ofA, ofS, nVar, AV.cells, rowOf_mk, put_mk, upd_mk, keyOf_mk, ky_inj, pureOp, readOp, pFA, pFA1, pFA2, rLd, rdAB_row, oneCell_one, hget_same, hget_hset_ite, pBin, binA, intOp_eql, pPick, List.length_cons, List.length_nil, List.getElem?_cons_zero, List.getElem?_cons_succ, List.drop_zero, List.drop_succ_cons, List.take_succ_cons, List.take_zero, Nat.zero_add, Nat.add_zero, Nat.reduceAdd, Nat.reduceLT, Nat.reduceLeDiff, Nat.reduceEqDiff, Nat.reduceSub, Nat.add_eq, loadA_w, loadW_s, binA, stepOp, stV_mk, stB_mk, T.get_n, T.set_n, T.set_e, Nat.reduceDiv, Nat.reduceMod, sz2, ag2, sz3, ag3, Tryz.underlying25, stepAny, wantedA_none, nq, nk, nc] <;> rfl))
        | (with_reducible rw [ifQ_t])
        | (with_reducible rw [ifQ_f])
        | (with_reducible refine ifQ_intro ?_ ?_ <;> intro hb))
        subst hQ
        refine ret_back (by simp only [Tryz.results41, resultOf, resultsA, resultA, List.toList_toArray, Fr.ev, Tget_set, ↓reduceIte] <;> rfl) ?_
        exact ⟨_, by rw [dec_f (p := q = q2 ∧ k = k2 ∧ c = c2 ∧ p = p2 ∧ L = M) (fun hA => hc hA.2.2.1)], by repeat (first | exact Same.base _ _ _ | refine Same.hset hw ?_ (ky_le _ _))⟩
    · have nk : (k == k2) = false := beq_eq_false_iff_ne.2 hk
      refine sndQ_body (K := (KT S0)) kt_ok mixed noNum (m := 0) Tryz.func41 ?_
      generalize hQ : retQ _ _ _ _ _ _ = Q0
      refine body_go (c := Tryz.f41.body.getD .skip) (n := 38) rfl rfl (by simp only [↓reduceIte, T.setList, T.set_e, T.set_n, Nat.reduceDiv, Nat.reduceMod, Nat.reduceEqDiff, Nat.zero_add] <;> rfl) ?_
      simp only [Tryz.f41, Option.getD_some]
      repeat' (first
      | with_reducible refine r_seq ?_
      | with_reducible refine r_next ?_
      | with_reducible refine r_block ?_
      | with_reducible refine r_seq_exit ?_
      | with_reducible refine r_seq_ret ?_
      | with_reducible refine r_blk_n ?_
      | with_reducible refine r_blk_ret ?_
      | with_reducible refine r_blk_hit ?_
      | with_reducible refine r_blk_miss rfl ?_
      | with_reducible refine r_skip ?_
      | with_reducible refine r_exit ?_
      | with_reducible refine r_ret ?_
      | with_reducible refine r_rq_exit ?_
      | with_reducible refine r_rq_ret ?_
      | ((with_reducible apply r_regA); (focus (simp only [List.append_eq, List.cons_append, List.nil_append] <;> rfl)); (focus (first | exact Nat.le_of_ble_eq_true rfl | (simp only [List.length_cons, List.length_nil]; omega))))
      | ((with_reducible refine r_reg (List.toList_toArray) ?_ ?_); focus (first | exact Nat.le_of_ble_eq_true rfl | (simp only [List.length_cons, List.length_nil]; omega)))
      | ((with_reducible apply r_drawL); (focus kernel_rfl); (focus kernel_rfl); (focus (first | exact Nat.le_of_ble_eq_true rfl | (simp only [List.length_cons, List.length_nil]; omega))))
      | ((with_reducible apply r_end); focus (simp only [Nat.reduceAdd, Nat.zero_add] <;> rfl))
      | ((with_reducible (first | apply r_move | apply r_assign)); (focus (simp only [T.get_n, Nat.reduceEqDiff, Nat.reduceDiv, Nat.reduceMod, Nat.reduceSub, ↓reduceIte] <;> rfl)); (focus (exact Nat.le_of_ble_eq_true rfl)))
      | ((with_reducible apply r_condT); (focus (simp only [Tget_set, T.get_n, T.get_e, Nat.reduceEqDiff, Nat.reduceDiv, Nat.reduceMod, Nat.reduceSub, ↓reduceIte, if_true, if_false] <;> rfl)))
      | ((with_reducible (first | apply r_any | apply r_cond)); focus (simp only [↓reduceIte, wantedA_eq, gBool_t, clsOf, newBlk, allocOp, Fr.ev, ofV, ofA, ofS, nVar, AV.cells, rowOf_mk, put_mk, upd_mk, keyOf_mk, ky_inj, pureOp, readOp, pFA, pFA1, pFA2, rLd, rdAB_row, oneCell_one, hget_same, hget_hset_ite, pBin, binA, intOp_eql, pPick, List.length_cons, List.length_nil, List.getElem?_cons_zero, List.getElem?_cons_succ, List.drop_zero, List.drop_succ_cons, List.take_succ_cons, List.take_zero, Nat.zero_add, Nat.add_zero, Nat.reduceAdd, Nat.reduceLT, Nat.reduceLeDiff, Nat.reduceEqDiff, Nat.reduceSub, Nat.add_eq, loadA_w, loadW_s, binA, stepOp, stV_mk, stB_mk, T.get_n, T.set_n, T.set_e, Nat.reduceDiv, Nat.reduceMod, sz2, ag2, sz3, ag3, Tryz.underlying25, stepAny, wantedA_none, nq, nk] <;> rfl))
      | (with_reducible rw [ifQ_t])
      | (with_reducible rw [ifQ_f])
      | (with_reducible refine ifQ_intro ?_ ?_ <;> intro hb))
      subst hQ
      refine ret_back (by simp only [Tryz.results41, resultOf, resultsA, resultA, List.toList_toArray, Fr.ev, Tget_set, ↓reduceIte] <;> rfl) ?_
      exact ⟨_, by rw [dec_f (p := q = q2 ∧ k = k2 ∧ c = c2 ∧ p = p2 ∧ L = M) (fun hA => hk hA.2.1)], by repeat (first | exact Same.base _ _ _ | refine Same.hset hw ?_ (ky_le _ _))⟩
  · have nq : (q == q2) = false := beq_eq_false_iff_ne.2 hq
    refine sndQ_body (K := (KT S0)) kt_ok mixed noNum (m := 0) Tryz.func41 ?_
    generalize hQ : retQ _ _ _ _ _ _ = Q0
    refine body_go (c := Tryz.f41.body.getD .skip) (n := 38) rfl rfl (by simp only [↓reduceIte, T.setList, T.set_e, T.set_n, Nat.reduceDiv, Nat.reduceMod, Nat.reduceEqDiff, Nat.zero_add] <;> rfl) ?_
    simp only [Tryz.f41, Option.getD_some]
    repeat' (first
    | with_reducible refine r_seq ?_
    | with_reducible refine r_next ?_
    | with_reducible refine r_block ?_
    | with_reducible refine r_seq_exit ?_
    | with_reducible refine r_seq_ret ?_
    | with_reducible refine r_blk_n ?_
    | with_reducible refine r_blk_ret ?_
    | with_reducible refine r_blk_hit ?_
    | with_reducible refine r_blk_miss rfl ?_
    | with_reducible refine r_skip ?_
    | with_reducible refine r_exit ?_
    | with_reducible refine r_ret ?_
    | with_reducible refine r_rq_exit ?_
    | with_reducible refine r_rq_ret ?_
    | ((with_reducible apply r_regA); (focus (simp only [List.append_eq, List.cons_append, List.nil_append] <;> rfl)); (focus (first | exact Nat.le_of_ble_eq_true rfl | (simp only [List.length_cons, List.length_nil]; omega))))
    | ((with_reducible refine r_reg (List.toList_toArray) ?_ ?_); focus (first | exact Nat.le_of_ble_eq_true rfl | (simp only [List.length_cons, List.length_nil]; omega)))
    | ((with_reducible apply r_drawL); (focus kernel_rfl); (focus kernel_rfl); (focus (first | exact Nat.le_of_ble_eq_true rfl | (simp only [List.length_cons, List.length_nil]; omega))))
    | ((with_reducible apply r_end); focus (simp only [Nat.reduceAdd, Nat.zero_add] <;> rfl))
    | ((with_reducible (first | apply r_move | apply r_assign)); (focus (simp only [T.get_n, Nat.reduceEqDiff, Nat.reduceDiv, Nat.reduceMod, Nat.reduceSub, ↓reduceIte] <;> rfl)); (focus (exact Nat.le_of_ble_eq_true rfl)))
    | ((with_reducible apply r_condT); (focus (simp only [Tget_set, T.get_n, T.get_e, Nat.reduceEqDiff, Nat.reduceDiv, Nat.reduceMod, Nat.reduceSub, ↓reduceIte, if_true, if_false] <;> rfl)))
    | ((with_reducible (first | apply r_any | apply r_cond)); focus (simp only [↓reduceIte, wantedA_eq, gBool_t, clsOf, newBlk, allocOp, Fr.ev, ofV, ofA, ofS, nVar, AV.cells, rowOf_mk, put_mk, upd_mk, keyOf_mk, ky_inj, pureOp, readOp, pFA, pFA1, pFA2, rLd, rdAB_row, oneCell_one, hget_same, hget_hset_ite, pBin, binA, intOp_eql, pPick, List.length_cons, List.length_nil, List.getElem?_cons_zero, List.getElem?_cons_succ, List.drop_zero, List.take_succ_cons, List.take_zero, Nat.zero_add, Nat.add_zero, Nat.reduceAdd, Nat.reduceLT, Nat.reduceLeDiff, Nat.reduceEqDiff, Nat.reduceSub, Nat.add_eq, loadA_w, loadW_s, binA, stepOp, stV_mk, stB_mk, T.get_n, T.set_n, T.set_e, Nat.reduceDiv, Nat.reduceMod, sz2, ag2, Tryz.underlying25, stepAny, wantedA_none, nq] <;> rfl))
    | (with_reducible rw [ifQ_t])
    | (with_reducible rw [ifQ_f])
    | (with_reducible refine ifQ_intro ?_ ?_ <;> intro hb))
    subst hQ
    refine ret_back (by simp only [Tryz.results41, resultOf, resultsA, resultA, List.toList_toArray, Fr.ev, Tget_set, ↓reduceIte] <;> rfl) ?_
    exact ⟨_, by rw [dec_f (p := q = q2 ∧ k = k2 ∧ c = c2 ∧ p = p2 ∧ L = M) (fun hA => hq hA.1)], by repeat (first | exact Same.base _ _ _ | refine Same.hset hw ?_ (ky_le _ _))⟩
theorem k_sameB {h h1 : Heap} {F : Nat} {q k c p q2 k2 c2 p2 : Int} {a b : AV} {L M : List (List AV)} (hL : LstP h ksV a L) (hM : LstP h ksV b M) (hs : SameH h h1) : CallF.fn (KT S) 41 [.agg [.int .i64 q, .int .i64 k, .int .i64 c, .int .i64 p, a], .agg [.int .i64 q2, .int .i64 k2, .int .i64 c2, .int .i64 p2, b]] ⟨h1, F⟩ = some [.val (.bool (dec (q = q2 ∧ k = k2 ∧ c = c2 ∧ p = p2 ∧ L = M))) ⟨h1, F⟩] :=
  kt_fn ((rfl : _ = spSm [.agg [.int .i64 q, .int .i64 k, .int .i64 c, .int .i64 p, a], .agg [.int .i64 q2, .int .i64 k2, .int .i64 c2, .int .i64 p2, b]] ⟨h1, F⟩).trans (by simp only [spSm, lstOf_same hL hs, lstOf_same hM hs])) (sameB h1 F q k c p q2 k2 c2 p2 a b L M (hL.same hs) (hM.same hs))
set_option maxHeartbeats 4000000 in
theorem allB (h : Heap) (F : Nat) (a b : AV) (X X2 : List (List AV)) (Y Y2 : List (List (List AV))) (hA : RowN h ksR 4 ksV a X Y) (hB : RowN h ksR 4 ksV b X2 Y2) : Snd Tryz.prog GL 11 [a, b] ⟨h, F⟩ [.val (.bool (dec (resAll X X2 Y Y2))) ⟨h, F⟩] := by
  refine snd_val (by simp [Kin]) fun hw => ?_
  have mxl : maxLen = 9223372036854775807 := by decide
  have lA := fun (h2 : Heap) => rLen1_L (h2 := h2) Tryz.underlying22 hA.1
  have lB := fun (h2 : Heap) => rLen1_L (h2 := h2) Tryz.underlying22 hB.1
  have hlen := hA.1.len
  by_cases hXX : X.length = X2.length
  · have hne : ((X.length : Int) != (X2.length : Int)) = false := by simp [hXX]
    refine sndQ_body (K := (KT S0)) kt_ok mixed noNum (m := X.length + 1) Tryz.func11 ?_
    generalize hQ : retQ _ _ _ _ _ _ = Q0
    refine body_go (c := Tryz.f11.body.getD .skip) (n := 27) rfl rfl (by simp only [↓reduceIte, T.setList, T.set_e, T.set_n, Nat.reduceDiv, Nat.reduceMod, Nat.reduceEqDiff, Nat.zero_add] <;> rfl) ?_
    simp only [Tryz.f11, Option.getD_some]
    repeat' (first
    | with_reducible refine r_seq ?_
    | with_reducible refine r_next ?_
    | with_reducible refine r_block ?_
    | with_reducible refine r_seq_exit ?_
    | with_reducible refine r_seq_ret ?_
    | with_reducible refine r_blk_n ?_
    | with_reducible refine r_blk_ret ?_
    | with_reducible refine r_blk_hit ?_
    | with_reducible refine r_blk_miss rfl ?_
    | with_reducible refine r_skip ?_
    | with_reducible refine r_exit ?_
    | with_reducible refine r_ret ?_
    | with_reducible refine r_rq_exit ?_
    | with_reducible refine r_rq_ret ?_
    | ((with_reducible apply r_regA); (focus (simp only [List.append_eq, List.cons_append, List.nil_append] <;> rfl)); (focus (first | exact Nat.le_of_ble_eq_true rfl | (simp only [List.length_cons, List.length_nil]; omega))))
    | ((with_reducible refine r_reg (List.toList_toArray) ?_ ?_); focus (first | exact Nat.le_of_ble_eq_true rfl | (simp only [List.length_cons, List.length_nil]; omega)))
    | ((with_reducible apply r_drawL); (focus kernel_rfl); (focus kernel_rfl); (focus (first | exact Nat.le_of_ble_eq_true rfl | (simp only [List.length_cons, List.length_nil]; omega))))
    | ((with_reducible apply r_end); focus (simp only [Nat.reduceAdd, Nat.zero_add] <;> rfl))
    | ((with_reducible (first | apply r_move | apply r_assign)); (focus (simp only [T.get_n, Nat.reduceEqDiff, Nat.reduceDiv, Nat.reduceMod, ↓reduceIte] <;> rfl)); (focus (exact Nat.le_of_ble_eq_true rfl)))
    | ((with_reducible apply r_condT); (focus (simp only [T.get_n, Nat.reduceEqDiff, Nat.reduceDiv, Nat.reduceMod, Nat.reduceSub, ↓reduceIte] <;> rfl)))
    | ((with_reducible (first | apply r_any | apply r_cond)); focus (simp only [↓reduceIte, clsOf, clsCall, Fr.ev, ofV, ofA, ofS, put_mk, pureOp, readOp, pBin, binA, intOp_neq, List.getElem?_cons_zero, Nat.reduceLT, Nat.reduceEqDiff, Nat.reduceSub, binA, stepOp, stV_mk, T.get_n, T.set_n, T.set_e, Nat.reduceDiv, Nat.reduceMod, stepAny, wantedA_none, rCall, rLen, lA, lB, hne, intOp_neq] <;> rfl))
    | (with_reducible rw [ifQ_t])
    | (with_reducible rw [ifQ_f])
    | (with_reducible refine ifQ_intro ?_ ?_ <;> intro hb))
    refine r_loop (I := fun nn fr s1 => ∃ lc tt h1 i, fr = ⟨F, lc, 27, tt, [], .no⟩ ∧ s1 = ⟨h1, F + 1⟩ ∧ i ≤ X.length ∧ nn = X.length - i ∧ lc + nn * 1000 ≤ 100000000000000000000000000 ∧ SameH h h1 ∧ tt.get 0 = some (a) ∧ tt.get 1 = some (b) ∧ tt.get 5 = some (.int .i64 (i : Int)) ∧ (∀ (j : Nat) (x x2 : List AV) (o o2 : List (List AV)), j < i → X[j]? = some x → X2[j]? = some x2 → Y[j]? = some o → Y2[j]? = some o2 → x.take 4 = x2.take 4 ∧ o = o2)) (n := X.length) ?_ ?_ ?_
    · omega
    · exact ⟨_, _, _, 0, rfl, rfl, Nat.zero_le _, (Nat.sub_zero _).symm, by omega, SameH.refl h, (by first | (simp only [T.get_n, ↓reduceIte] <;> rfl) | rfl), (by first | (simp only [T.get_n, Nat.reduceEqDiff, Nat.reduceDiv, Nat.reduceMod, ↓reduceIte] <;> rfl) | rfl), (by first | (simp only [T.get_n, Nat.reduceEqDiff, Nat.reduceDiv, Nat.reduceMod, Nat.reduceSub, ↓reduceIte] <;> rfl) | rfl), fun j _ _ _ _ hj => absurd hj (Nat.not_lt_zero _)⟩
    rintro nn fr s1 ⟨lc, tt, h1, i, rfl, rfl, hi, rfl, hlc, hS, u0, u1, u5, hI⟩
    by_cases hil : i < X.length
    · obtain ⟨b1, o1, eo1, cap1, q, k, c, p, v, l, rfl, hb1, hx1, hy1, _, _, _, _, hl1, r1, _⟩ := res_at hw hA hS hil
      obtain ⟨b2, o2, eo2, cap2, q2, k2, c2, p2, v2, l2, rfl, hb2, hx2, hy2, _, _, _, _, hl2, r2, _⟩ := res_at hw hB hS (show i < X2.length by omega)
      repeat' (first
      | with_reducible refine r_seq ?_
      | with_reducible refine r_next ?_
      | with_reducible refine r_block ?_
      | with_reducible refine r_seq_exit ?_
      | with_reducible refine r_seq_ret ?_
      | with_reducible refine r_blk_n ?_
      | with_reducible refine r_blk_ret ?_
      | with_reducible refine r_blk_hit ?_
      | with_reducible refine r_blk_miss rfl ?_
      | with_reducible refine r_skip ?_
      | with_reducible refine r_exit ?_
      | with_reducible refine r_ret ?_
      | with_reducible refine r_rq_exit ?_
      | with_reducible refine r_rq_ret ?_
      | ((with_reducible apply r_regA); (focus (simp only [List.append_eq, List.cons_append, List.nil_append] <;> rfl)); (focus (first | exact Nat.le_of_ble_eq_true rfl | (simp only [List.length_cons, List.length_nil]; omega))))
      | ((with_reducible refine r_reg (List.toList_toArray) ?_ ?_); focus (first | exact Nat.le_of_ble_eq_true rfl | (simp only [List.length_cons, List.length_nil]; omega)))
      | ((with_reducible apply (r_drawW (js := [0, 1, 2, 3, 4, 5, 6, 7, 8, 9]))); (focus kernel_rfl); (focus kernel_rfl); (focus (first | exact Nat.le_of_ble_eq_true rfl | (simp only [List.length_cons, List.length_nil]; omega))))
      | ((with_reducible apply d_end); (focus (simp only [List.length_cons, List.length_nil, Nat.add_assoc, Nat.reduceAdd, Nat.zero_add] <;> rfl)))
      | ((with_reducible apply d_any); (focus rfl); (iterate 2 (focus (simp only [↓reduceIte, clsOf, clsCall, Fr.ev, evs, put_mk, pureOp, readOp, rLd, someAgg_s, Nat.reduceLT, Nat.reduceEqDiff, loadA_w, loadW_a, pUn_not, callTo_s, heavyCall, target, List.nil_append, List.append_nil, Bool.and_true, stepOp, stHeavy, stV_mk, stO_mk, sz25, ag25, stepAny, wantedA_none, readSelf, av_int, av_agg, avs_nil, avs_cons, Tget_set, u0, u1, u5, pIA_s Tryz.underlying22 sz25 hil, pIA_s Tryz.underlying22 sz25 (show i < X2.length by omega), r1, r2, k_sameB hl1 hl2, hS, av_self_L hl1, av_self_L hl2] <;> rfl))); (focus (first | exact SameH.refl _ | (simp only [sameT, sameS hw]; done))))
      | ((with_reducible apply r_drawL); (focus kernel_rfl); (focus kernel_rfl); (focus (first | exact Nat.le_of_ble_eq_true rfl | (simp only [List.length_cons, List.length_nil]; omega))))
      | ((with_reducible apply r_end); focus (simp only [Nat.add_assoc, Nat.reduceAdd, Nat.zero_add] <;> rfl))
      | ((with_reducible (first | apply r_move | apply r_assign)); (focus (simp only [Tget_set, Nat.reduceEqDiff, ↓reduceIte, u0, u5] <;> rfl)); (focus (exact Nat.le_of_ble_eq_true rfl)))
      | ((with_reducible apply r_condT); (focus (simp only [Tget_set, ↓reduceIte] <;> rfl)))
      | ((with_reducible (first | apply r_any | apply r_cond)); focus (simp only [↓reduceIte, clsOf, clsCall, Fr.ev, ofV, ofA, ofS, put_mk, pureOp, readOp, pBin, binA, intOp_lss, List.getElem?_cons_zero, Nat.reduceLT, Nat.reduceEqDiff, binA, stepOp, stV_mk, stepAny, wantedA_none, rCall, rLen, Tget_set, lA, lt_t hil, intOp_add (inR_succ hil hlen)] <;> rfl))
      | (with_reducible rw [ifQ_t])
      | (with_reducible rw [ifQ_f])
      | (with_reducible refine ifQ_intro ?_ ?_ <;> intro hb))
      · have hx : ¬ (q = q2 ∧ k = k2 ∧ c = c2 ∧ p = p2 ∧ l = l2) := fun hx => by rw [dec_t hx] at hb; cases hb
        subst hQ
        refine ret_back (by simp only [Tryz.results11, resultOf, resultsA, resultA, List.toList_toArray, Fr.ev, Tget_set, ↓reduceIte] <;> rfl) ?_
        exact ⟨_, by rw [dec_f (p := resAll X X2 Y Y2) fun hR => hx (by obtain ⟨g1, g2⟩ := hR.2 i _ _ _ _ hx1 hx2 hy1 hy2; simp at g1; exact ⟨g1.1, g1.2.1, g1.2.2.1, g1.2.2.2, g2⟩)], by repeat (first | exact Same.base _ _ _ | exact hS | refine Same.hset hw ?_ (ky_le _ _))⟩
      · have hx : q = q2 ∧ k = k2 ∧ c = c2 ∧ p = p2 ∧ l = l2 := dec_iff.1 (by simpa using hb)
        refine r_rq_n (k := X.length - (i + 1)) (by omega) ⟨_, _, _, i + 1, rfl, rfl, by omega, rfl, by omega, ?_, (by first | (simp only [Tget_set, Nat.reduceEqDiff, ↓reduceIte, u0] <;> rfl) | rfl), (by first | (simp only [Tget_set, Nat.reduceEqDiff, ↓reduceIte, u1] <;> rfl) | rfl), (by first | (simp only [Tget_set, ↓reduceIte] <;> rfl) | rfl), ?_⟩
        · repeat (first | exact hS | refine SameH.hset hw ?_ (ky_le _ _))
        · intro j x x2 o o2 hj g1 g2 g3 g4
          rcases Nat.lt_or_ge j i with hji | hji
          · exact hI j x x2 o o2 hji g1 g2 g3 g4
          · obtain rfl : j = i := by omega
            rw [hx1] at g1; rw [hx2] at g2; rw [hy1] at g3; rw [hy2] at g4
            cases g1; cases g2; cases g3; cases g4
            obtain ⟨rfl, rfl, rfl, rfl, rfl⟩ := hx
            exact ⟨rfl, rfl⟩
    · repeat' (first
      | with_reducible refine r_seq ?_
      | with_reducible refine r_next ?_
      | with_reducible refine r_block ?_
      | with_reducible refine r_seq_exit ?_
      | with_reducible refine r_seq_ret ?_
      | with_reducible refine r_blk_n ?_
      | with_reducible refine r_blk_ret ?_
      | with_reducible refine r_blk_hit ?_
      | with_reducible refine r_blk_miss rfl ?_
      | with_reducible refine r_skip ?_
      | with_reducible refine r_exit ?_
      | with_reducible refine r_ret ?_
      | with_reducible refine r_rq_exit ?_
      | with_reducible refine r_rq_ret ?_
      | ((with_reducible apply r_regA); (focus (simp only [List.append_eq, List.cons_append, List.nil_append] <;> rfl)); (focus (first | exact Nat.le_of_ble_eq_true rfl | (simp only [List.length_cons, List.length_nil]; omega))))
      | ((with_reducible refine r_reg (List.toList_toArray) ?_ ?_); focus (first | exact Nat.le_of_ble_eq_true rfl | (simp only [List.length_cons, List.length_nil]; omega)))
      | ((with_reducible apply r_drawL); (focus kernel_rfl); (focus kernel_rfl); (focus (first | exact Nat.le_of_ble_eq_true rfl | (simp only [List.length_cons, List.length_nil]; omega))))
      | ((with_reducible apply r_end); focus (simp only [Nat.add_assoc, Nat.reduceAdd, Nat.zero_add] <;> rfl))
      | ((with_reducible (first | apply r_move | apply r_assign)); (focus (simp only [Tget_set, Nat.reduceEqDiff, ↓reduceIte, u0, u5] <;> rfl)); (focus (exact Nat.le_of_ble_eq_true rfl)))
      | ((with_reducible apply r_condT); (focus (simp only [Tget_set, ↓reduceIte] <;> rfl)))
      | ((with_reducible (first | apply r_any | apply r_cond)); focus (simp only [↓reduceIte, clsOf, clsCall, Fr.ev, ofV, ofA, ofS, put_mk, pureOp, readOp, pBin, binA, intOp_lss, List.getElem?_cons_zero, Nat.reduceLT, Nat.reduceEqDiff, binA, stepOp, stV_mk, stepAny, wantedA_none, rCall, rLen, Tget_set, lA, lt_f hil] <;> rfl))
      | (with_reducible rw [ifQ_t])
      | (with_reducible rw [ifQ_f])
      | (with_reducible refine ifQ_intro ?_ ?_ <;> intro hb))
      subst hQ
      refine ret_back (by simp only [Tryz.results11, resultOf, resultsA, resultA, List.toList_toArray, Fr.ev, Tget_set, ↓reduceIte] <;> rfl) ?_
      exact ⟨_, by rw [dec_t (p := resAll X X2 Y Y2) ⟨hXX, fun j x x2 o o2 g1 => hI j x x2 o o2 (by have := (List.getElem?_eq_some_iff.1 g1).1; omega) g1⟩], by repeat (first | exact Same.base _ _ _ | exact hS | refine Same.hset hw ?_ (ky_le _ _))⟩
  · have hne : ((X.length : Int) != (X2.length : Int)) = true := by simp; omega
    refine sndQ_body (K := (KT S0)) kt_ok mixed noNum (m := 0) Tryz.func11 ?_
    generalize hQ : retQ _ _ _ _ _ _ = Q0
    refine body_go (c := Tryz.f11.body.getD .skip) (n := 27) rfl rfl (by simp only [↓reduceIte, T.setList, T.set_e, T.set_n, Nat.reduceDiv, Nat.reduceMod, Nat.reduceEqDiff, Nat.zero_add] <;> rfl) ?_
    simp only [Tryz.f11, Option.getD_some]
    repeat' (first
    | with_reducible refine r_seq ?_
    | with_reducible refine r_next ?_
    | with_reducible refine r_block ?_
    | with_reducible refine r_seq_exit ?_
    | with_reducible refine r_seq_ret ?_
    | with_reducible refine r_blk_n ?_
    | with_reducible refine r_blk_ret ?_
    | with_reducible refine r_blk_hit ?_
    | with_reducible refine r_blk_miss rfl ?_
    | with_reducible refine r_skip ?_
    | with_reducible refine r_exit ?_
    | with_reducible refine r_ret ?_
    | with_reducible refine r_rq_exit ?_
    | with_reducible refine r_rq_ret ?_
    | ((with_reducible apply r_regA); (focus (simp only [List.append_eq, List.cons_append, List.nil_append] <;> rfl)); (focus (first | exact Nat.le_of_ble_eq_true rfl | (simp only [List.length_cons, List.length_nil]; omega))))
    | ((with_reducible refine r_reg (List.toList_toArray) ?_ ?_); focus (first | exact Nat.le_of_ble_eq_true rfl | (simp only [List.length_cons, List.length_nil]; omega)))
    | ((with_reducible apply r_drawL); (focus kernel_rfl); (focus kernel_rfl); (focus (first | exact Nat.le_of_ble_eq_true rfl | (simp only [List.length_cons, List.length_nil]; omega))))
    | ((with_reducible apply r_end); focus (simp only [Nat.reduceAdd, Nat.zero_add] <;> rfl))
    | ((with_reducible (first | apply r_move | apply r_assign)); (focus (simp only [T.get_n, Nat.reduceEqDiff, Nat.reduceDiv, Nat.reduceMod, ↓reduceIte] <;> rfl)); (focus (exact Nat.le_of_ble_eq_true rfl)))
    | ((with_reducible apply r_condT); (focus (simp only [T.get_n, Nat.reduceEqDiff, Nat.reduceDiv, Nat.reduceMod, Nat.reduceSub, ↓reduceIte] <;> rfl)))
    | ((with_reducible (first | apply r_any | apply r_cond)); focus (simp only [↓reduceIte, clsOf, clsCall, Fr.ev, ofV, ofA, ofS, put_mk, pureOp, readOp, pBin, binA, intOp_neq, List.getElem?_cons_zero, Nat.reduceLT, Nat.reduceEqDiff, Nat.reduceSub, binA, stepOp, stV_mk, T.get_n, T.set_n, T.set_e, Nat.reduceDiv, Nat.reduceMod, stepAny, wantedA_none, rCall, rLen, lA, lB, hne, intOp_neq] <;> rfl))
    | (with_reducible rw [ifQ_t])
    | (with_reducible rw [ifQ_f])
    | (with_reducible refine ifQ_intro ?_ ?_ <;> intro hb))
    subst hQ
    refine ret_back (by simp only [Tryz.results11, resultOf, resultsA, resultA, List.toList_toArray, Fr.ev, T.get_n, Nat.reduceDiv, Nat.reduceMod, Nat.reduceSub, Nat.reduceEqDiff, ↓reduceIte] <;> rfl) ?_
    exact ⟨_, by rw [dec_f (p := resAll X X2 Y Y2) fun hR => hXX hR.1], Same.base _ _ _⟩
set_option maxHeartbeats 4000000 in
theorem allF (h : Heap) (F : Nat) (a b : AV) (X X2 : List (List AV)) (Y Y2 : List (List (List AV))) (hA : RowN h ksR 4 ksV a X Y) (hB : RowN h ksR 4 ksV b X2 Y2) : Snd Tryz.prog GL 38 [a, b, .fn (.func 39) [] []] ⟨h, F⟩ [.val (.bool (dec (resAll X X2 Y Y2))) ⟨h, F⟩] := by
  refine snd_val (by simp [Kin]) fun hw => ?_
  have mxl : maxLen = 9223372036854775807 := by decide
  have lA := fun (h2 : Heap) => rLen1_L (h2 := h2) Tryz.underlying22 hA.1
  have lB := fun (h2 : Heap) => rLen1_L (h2 := h2) Tryz.underlying22 hB.1
  have hlen := hA.1.len
  by_cases hXX : X.length = X2.length
  · have hne : ((X.length : Int) != (X2.length : Int)) = false := by simp [hXX]
    refine sndQ_body (K := (KT S0)) kt_ok mixed noNum (m := X.length + 1) Tryz.func38 ?_
    generalize hQ : retQ _ _ _ _ _ _ = Q0
    refine body_go (c := Tryz.f38.body.getD .skip) (n := 32) rfl rfl (by simp only [↓reduceIte, T.setList, T.set_e, T.set_n, Nat.reduceDiv, Nat.reduceMod, Nat.reduceEqDiff, Nat.reduceSub, Nat.reduceAdd, Nat.zero_add] <;> rfl) ?_
    simp only [Tryz.f38, Option.getD_some]
    repeat' (first
    | with_reducible refine r_seq ?_
    | with_reducible refine r_next ?_
    | with_reducible refine r_block ?_
    | with_reducible refine r_seq_exit ?_
    | with_reducible refine r_seq_ret ?_
    | with_reducible refine r_blk_n ?_
    | with_reducible refine r_blk_ret ?_
    | with_reducible refine r_blk_hit ?_
    | with_reducible refine r_blk_miss rfl ?_
    | with_reducible refine r_skip ?_
    | with_reducible refine r_exit ?_
    | with_reducible refine r_ret ?_
    | with_reducible refine r_rq_exit ?_
    | with_reducible refine r_rq_ret ?_
    | ((with_reducible apply r_regA); (focus (simp only [List.append_eq, List.cons_append, List.nil_append] <;> rfl)); (focus (first | exact Nat.le_of_ble_eq_true rfl | (simp only [List.length_cons, List.length_nil]; omega))))
    | ((with_reducible refine r_reg (List.toList_toArray) ?_ ?_); focus (first | exact Nat.le_of_ble_eq_true rfl | (simp only [List.length_cons, List.length_nil]; omega)))
    | ((with_reducible apply r_drawL); (focus kernel_rfl); (focus kernel_rfl); (focus (first | exact Nat.le_of_ble_eq_true rfl | (simp only [List.length_cons, List.length_nil]; omega))))
    | ((with_reducible apply r_end); focus (simp only [Nat.reduceAdd, Nat.zero_add] <;> rfl))
    | ((with_reducible (first | apply r_move | apply r_assign)); (focus (simp only [T.get_n, Nat.reduceEqDiff, Nat.reduceDiv, Nat.reduceMod, ↓reduceIte] <;> rfl)); (focus (exact Nat.le_of_ble_eq_true rfl)))
    | ((with_reducible apply r_condT); (focus (simp only [T.get_n, Nat.reduceEqDiff, Nat.reduceDiv, Nat.reduceMod, Nat.reduceSub, ↓reduceIte] <;> rfl)))
    | ((with_reducible (first | apply r_any | apply r_cond)); focus (simp only [↓reduceIte, clsOf, clsCall, Fr.ev, ofV, ofA, ofS, put_mk, pureOp, readOp, pBin, binA, intOp_neq, List.getElem?_cons_zero, Nat.reduceLT, Nat.reduceEqDiff, Nat.reduceSub, binA, stepOp, stV_mk, T.get_n, T.set_n, T.set_e, Nat.reduceDiv, Nat.reduceMod, stepAny, wantedA_none, rCall, rLen, lA, lB, hne, intOp_neq] <;> rfl))
    | (with_reducible rw [ifQ_t])
    | (with_reducible rw [ifQ_f])
    | (with_reducible refine ifQ_intro ?_ ?_ <;> intro hb))
    refine r_loop (I := fun nn fr s1 => ∃ lc tt h1 i, fr = ⟨F, lc, 32, tt, [], .no⟩ ∧ s1 = ⟨h1, F + 1⟩ ∧ i ≤ X.length ∧ nn = X.length - i ∧ lc + nn * 1000 ≤ 100000000000000000000000000 ∧ SameH h h1 ∧ tt.get 0 = some (a) ∧ tt.get 1 = some (b) ∧ tt.get 2 = some (.fn (.func 39) [] []) ∧ tt.get 15 = some (a) ∧ tt.get 16 = some (.int .i64 (X.length : Int)) ∧ tt.get 17 = some (.int .i64 (i : Int)) ∧ (∀ (j : Nat) (x x2 : List AV) (o o2 : List (List AV)), j < i → X[j]? = some x → X2[j]? = some x2 → Y[j]? = some o → Y2[j]? = some o2 → x.take 4 = x2.take 4 ∧ o = o2)) (n := X.length) ?_ ?_ ?_
    · omega
    · exact ⟨_, _, _, 0, rfl, rfl, Nat.zero_le _, (Nat.sub_zero _).symm, by omega, SameH.refl h, (by first | (simp only [T.get_n, ↓reduceIte] <;> rfl) | rfl), (by first | (simp only [T.get_n, Nat.reduceEqDiff, Nat.reduceDiv, Nat.reduceMod, ↓reduceIte] <;> rfl) | rfl), (by first | (simp only [T.get_n, Nat.reduceEqDiff, Nat.reduceDiv, Nat.reduceMod, Nat.reduceSub, ↓reduceIte] <;> rfl) | rfl), (by first | (simp only [T.get_n, Nat.reduceEqDiff, Nat.reduceDiv, Nat.reduceMod, ↓reduceIte] <;> rfl) | rfl), (by first | (simp only [T.get_n, Nat.reduceEqDiff, Nat.reduceDiv, Nat.reduceMod, Nat.reduceSub, ↓reduceIte] <;> rfl) | rfl), (by first | (simp only [T.get_n, Nat.reduceEqDiff, Nat.reduceDiv, Nat.reduceMod, Nat.reduceSub, ↓reduceIte] <;> rfl) | rfl), fun j _ _ _ _ hj => absurd hj (Nat.not_lt_zero _)⟩
    rintro nn fr s1 ⟨lc, tt, h1, i, rfl, rfl, hi, rfl, hlc, hS, u0, u1, u2, u15, u16, u17, hI⟩
    by_cases hil : i < X.length
    · obtain ⟨b1, o1, eo1, cap1, q, k, c, p, v, l, rfl, hb1, hx1, hy1, _, _, _, _, hl1, r1, _⟩ := res_at hw hA hS hil
      obtain ⟨b2, o2, eo2, cap2, q2, k2, c2, p2, v2, l2, rfl, hb2, hx2, hy2, _, _, _, _, hl2, r2, _⟩ := res_at hw hB hS (show i < X2.length by omega)
      repeat' (first
      | with_reducible refine r_seq ?_
      | with_reducible refine r_next ?_
      | with_reducible refine r_block ?_
      | with_reducible refine r_seq_exit ?_
      | with_reducible refine r_seq_ret ?_
      | with_reducible refine r_blk_n ?_
      | with_reducible refine r_blk_ret ?_
      | with_reducible refine r_blk_hit ?_
      | with_reducible refine r_blk_miss rfl ?_
      | with_reducible refine r_skip ?_
      | with_reducible refine r_exit ?_
      | with_reducible refine r_ret ?_
      | with_reducible refine r_rq_exit ?_
      | with_reducible refine r_rq_ret ?_
      | ((with_reducible apply r_regA); (focus (simp only [List.append_eq, List.cons_append, List.nil_append] <;> rfl)); (focus (first | exact Nat.le_of_ble_eq_true rfl | (simp only [List.length_cons, List.length_nil]; omega))))
      | ((with_reducible refine r_reg (List.toList_toArray) ?_ ?_); focus (first | exact Nat.le_of_ble_eq_true rfl | (simp only [List.length_cons, List.length_nil]; omega)))
      | ((with_reducible apply r_drawL); (focus kernel_rfl); (focus kernel_rfl); (focus (first | exact Nat.le_of_ble_eq_true rfl | (simp only [List.length_cons, List.length_nil]; omega))))
      | ((with_reducible apply r_end); focus (simp only [Nat.add_assoc, Nat.reduceAdd, Nat.zero_add] <;> rfl))
      | ((with_reducible (first | apply r_move | apply r_assign)); (focus (simp only [Tget_set, Nat.reduceEqDiff, ↓reduceIte, u1, u2, u17] <;> rfl)); (focus (exact Nat.le_of_ble_eq_true rfl)))
      | ((with_reducible apply r_condT); (focus (simp only [Tget_set, ↓reduceIte] <;> rfl)))
      | ((with_reducible (first | apply r_any | apply r_cond)); focus (simp only [↓reduceIte, clsOf, clsCall, newBlk, allocOp, Fr.ev, evs, ofV, ofA, ofS, nVar, AV.cells, rowOf_mk, put_mk, put_none, upd_mk, keyOf_mk, ky_inj, pureOp, readOp, rLd, rdAB_row, someAgg_s, hget_same, hget_hset_ite, pBin, binA, intOp_lss, List.length_cons, List.length_nil, List.drop_zero, List.take_succ_cons, List.take_zero, Nat.zero_add, Nat.reduceAdd, Nat.reduceLT, Nat.reduceLeDiff, Nat.reduceEqDiff, and_self, loadA_w, loadW_a, aSt_w, stOut_s, wrAB_row, ovr, List.set_cons_zero, List.set_cons_succ, allCell, ic_i, pUn_not, callTo_s, heavyCall, target, actOp, List.nil_append, List.append_nil, binA, stepOp, stHeavy, stV_mk, stB_mk, stO_mk, sz25, ag25, zr25, tg25, stepAny, wantedA_none, Tget_set, Nat.left_eq_add, u15, u16, u17, lt_t hil, pIA_s Tryz.underlying22 sz25 hil, pIA_s Tryz.underlying22 sz25 (show i < X2.length by omega), r1, r2, ky_old hb2, k_sameA hl1 hl2, isCell_L hl1, isCell_L hl2, hS, sameS hw, intOp_add (inR_succ hil hlen)] <;> rfl))
      | (with_reducible rw [ifQ_t])
      | (with_reducible rw [ifQ_f])
      | (with_reducible refine ifQ_intro ?_ ?_ <;> intro hb))
      · have hx : ¬ (q = q2 ∧ k = k2 ∧ c = c2 ∧ p = p2 ∧ l = l2) := fun hx => by rw [dec_t hx] at hb; cases hb
        subst hQ
        refine ret_back (by simp only [Tryz.results38, resultOf, resultsA, resultA, List.toList_toArray, Fr.ev, Tget_set, ↓reduceIte] <;> rfl) ?_
        exact ⟨_, by rw [dec_f (p := resAll X X2 Y Y2) fun hR => hx (by obtain ⟨g1, g2⟩ := hR.2 i _ _ _ _ hx1 hx2 hy1 hy2; simp at g1; exact ⟨g1.1, g1.2.1, g1.2.2.1, g1.2.2.2, g2⟩)], by repeat (first | exact Same.base _ _ _ | exact hS | refine Same.hset hw ?_ (ky_le _ _))⟩
      · have hx : q = q2 ∧ k = k2 ∧ c = c2 ∧ p = p2 ∧ l = l2 := dec_iff.1 (by simpa using hb)
        refine r_rq_n (k := X.length - (i + 1)) (by omega) ⟨_, _, _, i + 1, rfl, rfl, by omega, rfl, by omega, ?_, (by first | (simp only [Tget_set, Nat.reduceEqDiff, ↓reduceIte, u0] <;> rfl) | rfl), (by first | (simp only [Tget_set, Nat.reduceEqDiff, ↓reduceIte, u1] <;> rfl) | rfl), (by first | (simp only [Tget_set, Nat.reduceEqDiff, ↓reduceIte, u2] <;> rfl) | rfl), (by first | (simp only [Tget_set, Nat.reduceEqDiff, ↓reduceIte, u15] <;> rfl) | rfl), (by first | (simp only [Tget_set, Nat.reduceEqDiff, ↓reduceIte, u16] <;> rfl) | rfl), (by first | (simp only [Tget_set, ↓reduceIte] <;> rfl) | rfl), ?_⟩
        · repeat (first | exact hS | refine SameH.hset hw ?_ (ky_le _ _))
        · intro j x x2 o o2 hj g1 g2 g3 g4
          rcases Nat.lt_or_ge j i with hji | hji
          · exact hI j x x2 o o2 hji g1 g2 g3 g4
          · obtain rfl : j = i := by omega
            rw [hx1] at g1; rw [hx2] at g2; rw [hy1] at g3; rw [hy2] at g4
            cases g1; cases g2; cases g3; cases g4
            obtain ⟨rfl, rfl, rfl, rfl, rfl⟩ := hx
            exact ⟨rfl, rfl⟩
    · repeat' (first
      | with_reducible refine r_seq ?_
      | with_reducible refine r_next ?_
      | with_reducible refine r_block ?_
      | with_reducible refine r_seq_exit ?_
      | with_reducible refine r_seq_ret ?_
      | with_reducible refine r_blk_n ?_
      | with_reducible refine r_blk_ret ?_
      | with_reducible refine r_blk_hit ?_
      | with_reducible refine r_blk_miss rfl ?_
      | with_reducible refine r_skip ?_
      | with_reducible refine r_exit ?_
      | with_reducible refine r_ret ?_
      | with_reducible refine r_rq_exit ?_
      | with_reducible refine r_rq_ret ?_
      | ((with_reducible apply r_regA); (focus (simp only [List.append_eq, List.cons_append, List.nil_append] <;> rfl)); (focus (first | exact Nat.le_of_ble_eq_true rfl | (simp only [List.length_cons, List.length_nil]; omega))))
      | ((with_reducible refine r_reg (List.toList_toArray) ?_ ?_); focus (first | exact Nat.le_of_ble_eq_true rfl | (simp only [List.length_cons, List.length_nil]; omega)))
      | ((with_reducible apply r_drawL); (focus kernel_rfl); (focus kernel_rfl); (focus (first | exact Nat.le_of_ble_eq_true rfl | (simp only [List.length_cons, List.length_nil]; omega))))
      | ((with_reducible apply r_end); focus (simp only [Nat.add_assoc, Nat.reduceAdd, Nat.zero_add] <;> rfl))
      | ((with_reducible (first | apply r_move | apply r_assign)); (focus (simp only [Tget_set, T.get_n, T.get_e, Nat.reduceEqDiff, Nat.reduceDiv, Nat.reduceMod, Nat.reduceSub, ↓reduceIte, if_true, if_false, u0, u1, u2, u15, u16, u17] <;> rfl)); (focus (exact Nat.le_of_ble_eq_true rfl)))
      | ((with_reducible apply r_condT); (focus (simp only [Tget_set, ↓reduceIte] <;> rfl)))
      | ((with_reducible (first | apply r_any | apply r_cond)); focus (simp only [↓reduceIte, clsOf, Fr.ev, ofV, ofA, ofS, put_mk, pureOp, pBin, binA, intOp_lss, Nat.reduceLT, binA, stepOp, stV_mk, stepAny, wantedA_none, u16, u17, lt_f hil] <;> rfl))
      | (with_reducible rw [ifQ_t])
      | (with_reducible rw [ifQ_f])
      | (with_reducible refine ifQ_intro ?_ ?_ <;> intro hb))
      subst hQ
      refine ret_back (by simp only [Tryz.results38, resultOf, resultsA, resultA, List.toList_toArray, Fr.ev, Tget_set, ↓reduceIte] <;> rfl) ?_
      exact ⟨_, by rw [dec_t (p := resAll X X2 Y Y2) ⟨hXX, fun j x x2 o o2 g1 => hI j x x2 o o2 (by have := (List.getElem?_eq_some_iff.1 g1).1; omega) g1⟩], by repeat (first | exact Same.base _ _ _ | exact hS | refine Same.hset hw ?_ (ky_le _ _))⟩
  · have hne : ((X.length : Int) != (X2.length : Int)) = true := by simp; omega
    refine sndQ_body (K := (KT S0)) kt_ok mixed noNum (m := 0) Tryz.func38 ?_
    generalize hQ : retQ _ _ _ _ _ _ = Q0
    refine body_go (c := Tryz.f38.body.getD .skip) (n := 32) rfl rfl (by simp only [↓reduceIte, T.setList, T.set_e, T.set_n, Nat.reduceDiv, Nat.reduceMod, Nat.reduceEqDiff, Nat.reduceSub, Nat.reduceAdd, Nat.zero_add] <;> rfl) ?_
    simp only [Tryz.f38, Option.getD_some]
    repeat' (first
    | with_reducible refine r_seq ?_
    | with_reducible refine r_next ?_
    | with_reducible refine r_block ?_
    | with_reducible refine r_seq_exit ?_
    | with_reducible refine r_seq_ret ?_
    | with_reducible refine r_blk_n ?_
    | with_reducible refine r_blk_ret ?_
    | with_reducible refine r_blk_hit ?_
    | with_reducible refine r_blk_miss rfl ?_
    | with_reducible refine r_skip ?_
    | with_reducible refine r_exit ?_
    | with_reducible refine r_ret ?_
    | with_reducible refine r_rq_exit ?_
    | with_reducible refine r_rq_ret ?_
    | ((with_reducible apply r_regA); (focus (simp only [List.append_eq, List.cons_append, List.nil_append] <;> rfl)); (focus (first | exact Nat.le_of_ble_eq_true rfl | (simp only [List.length_cons, List.length_nil]; omega))))
    | ((with_reducible refine r_reg (List.toList_toArray) ?_ ?_); focus (first | exact Nat.le_of_ble_eq_true rfl | (simp only [List.length_cons, List.length_nil]; omega)))
    | ((with_reducible apply r_drawL); (focus kernel_rfl); (focus kernel_rfl); (focus (first | exact Nat.le_of_ble_eq_true rfl | (simp only [List.length_cons, List.length_nil]; omega))))
    | ((with_reducible apply r_end); focus (simp only [Nat.reduceAdd, Nat.zero_add] <;> rfl))
    | ((with_reducible (first | apply r_move | apply r_assign)); (focus (simp only [T.get_n, Nat.reduceEqDiff, Nat.reduceDiv, Nat.reduceMod, ↓reduceIte] <;> rfl)); (focus (exact Nat.le_of_ble_eq_true rfl)))
    | ((with_reducible apply r_condT); (focus (simp only [T.get_n, Nat.reduceEqDiff, Nat.reduceDiv, Nat.reduceMod, Nat.reduceSub, ↓reduceIte] <;> rfl)))
    | ((with_reducible (first | apply r_any | apply r_cond)); focus (simp only [↓reduceIte, clsOf, clsCall, Fr.ev, ofV, ofA, ofS, put_mk, pureOp, readOp, pBin, binA, intOp_neq, List.getElem?_cons_zero, Nat.reduceLT, Nat.reduceEqDiff, Nat.reduceSub, binA, stepOp, stV_mk, T.get_n, T.set_n, T.set_e, Nat.reduceDiv, Nat.reduceMod, stepAny, wantedA_none, rCall, rLen, lA, lB, hne, intOp_neq] <;> rfl))
    | (with_reducible rw [ifQ_t])
    | (with_reducible rw [ifQ_f])
    | (with_reducible refine ifQ_intro ?_ ?_ <;> intro hb))
    subst hQ
    refine ret_back (by simp only [Tryz.results38, resultOf, resultsA, resultA, List.toList_toArray, Fr.ev, T.get_n, Nat.reduceDiv, Nat.reduceMod, Nat.reduceSub, Nat.reduceEqDiff, ↓reduceIte] <;> rfl) ?_
    exact ⟨_, by rw [dec_f (p := resAll X X2 Y Y2) fun hR => hXX hR.1], Same.base _ _ _⟩

theorem k_allB {h h1 : Heap} {F : Nat} {a b : AV} {X X2 : List (List AV)} {Y Y2 : List (List (List AV))} (hA : RowN h ksR 4 ksV a X Y) (hB : RowN h ksR 4 ksV b X2 Y2) (hs : SameH h h1) : CallF.fn (KT S) 11 [a, b] ⟨h1, F⟩ = some [.val (.bool (dec (resAll X X2 Y Y2))) ⟨h1, F⟩] :=
  kt_fn ((rfl : _ = spAl [a, b] ⟨h1, F⟩).trans (by simp only [spAl, rowsOf_same hA hs, rowsOf_same hB hs])) (allB h1 F a b X X2 Y Y2 (hA.same hs) (hB.same hs))
theorem k_allF {h h1 : Heap} {F : Nat} {a b : AV} {X X2 : List (List AV)} {Y Y2 : List (List (List AV))} (hA : RowN h ksR 4 ksV a X Y) (hB : RowN h ksR 4 ksV b X2 Y2) (hs : SameH h h1) : CallF.fn (KT S) 38 [a, b, .fn (.func 39) [] []] ⟨h1, F⟩ = some [.val (.bool (dec (resAll X X2 Y Y2))) ⟨h1, F⟩] :=
  kt_fn ((rfl : _ = spEf [a, b, .fn (.func 39) [] []] ⟨h1, F⟩).trans (by simp only [spEf, rowsOf_same hA hs, rowsOf_same hB hs])) (allF h1 F a b X X2 Y Y2 (hA.same hs) (hB.same hs))
theorem same3 (h : Heap) (F : Nat) (a b : AV) (X X2 : List (List AV)) (Y Y2 : List (List (List AV))) (hA : RowN h ksR 4 ksV a X Y) (hB : RowN h ksR 4 ksV b X2 Y2) : Snd Tryz.prog GL 10 [a, b] ⟨h, F⟩ [.val (.bool (dec (resAll X X2 Y Y2))) ⟨h, F⟩] := by
  refine snd_val (by simp [Kin]) fun hw => ?_
  refine sndQ_body (K := (KT S0)) kt_ok mixed noNum (m := 0) Tryz.func10 ?_
  generalize hQ : retQ _ _ _ _ _ _ = Q0
  refine body_go (c := Tryz.f10.body.getD .skip) (n := 8) rfl rfl (by simp only [↓reduceIte, T.setList, T.set_e, T.set_n, Nat.reduceDiv, Nat.reduceMod, Nat.reduceEqDiff, Nat.zero_add] <;> rfl) ?_
  simp only [Tryz.f10, Option.getD_some]
  repeat' (first
  | with_reducible refine r_seq ?_
  | with_reducible refine r_next ?_
  | with_reducible refine r_block ?_
  | with_reducible refine r_seq_exit ?_
  | with_reducible refine r_seq_ret ?_
  | with_reducible refine r_blk_n ?_
  | with_reducible refine r_blk_ret ?_
  | with_reducible refine r_blk_hit ?_
  | with_reducible refine r_blk_miss rfl ?_
  | with_reducible refine r_skip ?_
  | with_reducible refine r_exit ?_
  | with_reducible refine r_ret ?_
  | with_reducible refine r_rq_exit ?_
  | with_reducible refine r_rq_ret ?_
  | ((with_reducible apply r_regA); (focus (simp only [List.append_eq, List.cons_append, List.nil_append] <;> rfl)); (focus (first | exact Nat.le_of_ble_eq_true rfl | (simp only [List.length_cons, List.length_nil]; omega))))
  | ((with_reducible refine r_reg (List.toList_toArray) ?_ ?_); focus (first | exact Nat.le_of_ble_eq_true rfl | (simp only [List.length_cons, List.length_nil]; omega)))
  | ((with_reducible apply r_drawL); (focus kernel_rfl); (focus kernel_rfl); (focus (first | exact Nat.le_of_ble_eq_true rfl | (simp only [List.length_cons, List.length_nil]; omega))))
  | ((with_reducible apply r_end); focus (simp only [Nat.reduceAdd, Nat.zero_add] <;> rfl))
  | ((with_reducible (first | apply r_move | apply r_assign)); (focus (simp only [Tget_set, T.get_n, Nat.reduceEqDiff, Nat.reduceDiv, Nat.reduceMod, ↓reduceIte] <;> rfl)); (focus (exact Nat.le_of_ble_eq_true rfl)))
  | ((with_reducible apply r_condT); (focus (simp only [Tget_set, T.get_n, T.get_e, Nat.reduceEqDiff, Nat.reduceDiv, Nat.reduceMod, Nat.reduceSub, ↓reduceIte, if_true, if_false] <;> rfl)))
  | ((with_reducible (first | apply r_any | apply r_cond)); focus (simp only [↓reduceIte, clsOf, clsCall, Fr.ev, evs, ofV, ofA, ofS, put_mk, pureOp, Nat.reduceLT, Nat.reduceEqDiff, Nat.reduceSub, callTo_s, heavyCall, target, List.nil_append, List.append_nil, stepOp, stHeavy, stV_mk, stO_mk, T.get_n, T.set_n, T.set_e, Nat.reduceDiv, Nat.reduceMod, stepAny, wantedA_none, k_allF hA hB, sameT] <;> rfl))
  | (with_reducible rw [ifQ_t])
  | (with_reducible rw [ifQ_f])
  | (with_reducible refine ifQ_intro ?_ ?_ <;> intro hb))
  subst hQ
  refine ret_back (by simp only [Tryz.results10, resultOf, resultsA, resultA, List.toList_toArray, Fr.ev, Tget_set, ↓reduceIte] <;> rfl) ?_
  exact ⟨_, rfl, Same.base _ _ _⟩
theorem k_same3 {h h1 : Heap} {F : Nat} {a b : AV} {X X2 : List (List AV)} {Y Y2 : List (List (List AV))} (hA : RowN h ksR 4 ksV a X Y) (hB : RowN h ksR 4 ksV b X2 Y2) (hs : SameH h h1) : CallF.fn (KT S) 10 [a, b] ⟨h1, F⟩ = some [.val (.bool (dec (resAll X X2 Y Y2))) ⟨h1, F⟩] :=
  kt_fn ((rfl : _ = spAl [a, b] ⟨h1, F⟩).trans (by simp only [spAl, rowsOf_same hA hs, rowsOf_same hB hs])) (same3 h1 F a b X X2 Y Y2 (hA.same hs) (hB.same hs))
end

end Go.Proofs.YtlbjmpbgnbpcoaaGreatDoor

/-! A region that draws its order: one new block of its own, appends; what is looked at lies in the memory that the region found. -/
namespace Go.Ai
open Go
variable {P : Program} {G : Glob} {K : CallF} {m : Nat} {Q : Ex → Fr → St → Prop}

/-! ### a memory without what is forgotten -/
noncomputable def T.filt {α : Type} : T α → (Nat → Bool) → T α
  | .e, _ => .e
  | .n l v r, p => .n (T.filt l fun j => p (2 * j + 1)) (match p 0 with | true => v | false => none) (T.filt r fun j => p (2 * j + 2))
theorem T.get_filt {α : Type} : ∀ (t : T α) (p : Nat → Bool) (k : Nat), (T.filt t p).get k = if p k = true then t.get k else none
  | .e, p, k => by simp [T.filt, T.get_e]
  | .n l v r, p, k => by
    rw [T.filt, T.get_n, T.get_n]
    by_cases h0 : k = 0
    · subst h0
      simp only [if_true]
      cases p 0 <;> simp
    · rw [if_neg h0, if_neg h0]
      by_cases h1 : k % 2 = 1
      · rw [if_pos h1, if_pos h1, T.get_filt l, show 2 * (k / 2) + 1 = k by omega]
      · rw [if_neg h1, if_neg h1, T.get_filt r, show 2 * (k / 2 - 1) + 2 = k by omega]
noncomputable def sweep (h : Heap) (F : Nat) : Heap := T.filt h fun j => Nat.blt j F
theorem hget_sweep (h : Heap) (F i : Nat) : hget (sweep h F) i = if i < ky F 0 then hget h i else none := by
  unfold hget sweep
  rw [T.get_filt]
  have key : Nat.blt (Nat.div i 1267650600228229401496703205376) F = true ↔ i < ky F 0 := by
    rw [Nat.blt_eq]
    show i / 1267650600228229401496703205376 < F ↔ _
    unfold ky
    rw [Nat.div_lt_iff_lt_mul (by decide)]
    omega
  by_cases h : i < ky F 0
  · rw [if_pos (key.2 h), if_pos h]
  · rw [if_neg (fun e => h (key.1 e)), if_neg h]
/-- the same memory: the same blocks that are there -/
def AlikeH (h h' : Heap) : Prop := ∀ i ab, ab ≠ .dead → (hget h i = some ab ↔ hget h' i = some ab)
theorem AlikeH.symm {h h' : Heap} (a : AlikeH h h') : AlikeH h' h := fun i ab hd => (a i ab hd).symm
theorem alike_sweep {h : Heap} {F : Nat} (hw : Wf ⟨h, F⟩) : AlikeH h (sweep h F) := by
  intro i ab hd
  rw [hget_sweep]
  constructor
  · intro hi
    rw [if_pos (hw i ab hi hd)]; exact hi
  · intro hi
    split at hi
    · exact hi
    · cases hi
theorem AlikeH.hset {h h' : Heap} (a : AlikeH h h') (k : Nat) (b : AB) : AlikeH (hset h k b) (hset h' k b) := by
  intro i ab hd
  rw [hget_hset, hget_hset]
  split
  · exact Iff.rfl
  · exact a i ab hd
theorem AlikeH.live {h h' : Heap} (a : AlikeH h h') {i : Nat} (l : live (hget h) i) : live (hget h') i := by
  obtain ⟨ab, h1, h2⟩ := l
  exact ⟨ab, (a i ab h2.nd).1 h1, h2⟩
theorem AlikeH.rh {h h' : Heap} (a : AlikeH h h') {ρ : Map} {base : Nat} {w : World} (r : RH ρ base (hget h) w) : RH ρ base (hget h') w :=
  ⟨fun i ab hi hd => r.blk i ab ((a i ab hd).2 hi) hd, fun i j e e' li lj => r.inj i j e e' (a.symm.live li) (a.symm.live lj)⟩
theorem AlikeH.rm {h h' : Heap} {F : Nat} (a : AlikeH h h') {ρ : Map} {base : Nat} {w : World} (r : RM G base ρ ⟨h, F⟩ w) : RM G base ρ ⟨h', F⟩ w := ⟨a.rh r.rh, r.rg, r.bs, r.hi⟩
theorem AlikeH.owns {h h' : Heap} (a : AlikeH h h') {ρ : Map} {b : Nat} (o : owns ρ (hget h) b) : owns ρ (hget h') b := by
  obtain ⟨i, e, l, h1, h2⟩ := o
  exact ⟨i, e, a.live l, h1, h2⟩
theorem AlikeH.adv {h h' h1 h1' : Heap} {F F1 base : Nat} (a : AlikeH h h') (a1 : AlikeH h1 h1') {ρ ρ1 : Map} {w w1 : World} (v : Adv base (fun _ => False) ρ ⟨h, F⟩ w ρ1 ⟨h1, F1⟩ w1) : Adv base (fun _ => False) ρ ⟨h', F⟩ w ρ1 ⟨h1', F1⟩ w1 :=
  ⟨⟨v.st.mono, ⟨v.st.keeps.os, v.st.keeps.tape, v.st.keeps.output, v.st.keeps.size, fun b hb hn => v.st.keeps.block b hb fun o => hn (a.owns o)⟩, a1.rh v.st.rh, fun b hb => (v.st.grow b (a1.symm.owns hb)).imp (fun o => a.owns o) id⟩, v.fc, v.keep, v.hi⟩
/-- what is forgotten may be thought away -/
theorem snd_sweep {f : FuncId} {args : List AV} {h : Heap} {F : Nat} {outs : Heap → List Out} (ho : ∀ h1 h2, AlikeH h1 h2 → ∀ v s, Out.val v s ∈ outs h1 → ∃ s', Out.val v s' ∈ outs h2 ∧ s'.fc = s.fc ∧ AlikeH s.h s'.h)
    (hp : ∀ h1 v s, Out.pan v s ∉ outs h1)
    (hs : (∀ i, ky F 0 ≤ i → hget (sweep h F) i = none) → SameH h (sweep h F) → Snd P G f args ⟨sweep h F, F⟩ (outs (sweep h F))) : Snd P G f args ⟨h, F⟩ (outs h) := by
  refine snd_wf fun hw => ?_
  intro base ρ w vs rv rm
  have al := alike_sweep hw
  have := hs (fun i hi => by rw [hget_sweep, if_neg (by omega)]) (fun i ab h1 h2 => (al i ab h2).1 h1) base ρ w vs rv (al.rm rm)
  refine this.mono ?_
  rintro e w' ⟨ρ', ⟨v, s', u, h1, h2, h3, h4⟩ | ⟨v, s', u, h1, h2, h3, h4⟩⟩
  · obtain ⟨s2, g1, g2, g3⟩ := ho _ _ al.symm v s' h1
    obtain ⟨hh, ff⟩ := s'
    obtain ⟨hh2, ff2⟩ := s2
    simp only at g2 g3
    subst g2
    exact ⟨ρ', .inl ⟨v, _, u, g1, h2, h3, al.symm.adv g3 h4⟩⟩
  · exact absurd h1 (hp _ _ _)

/-! ### the walk along the order -/
/-- at most one operation that makes a block is there, number i0; all that act stand behind it -/
noncomputable def drawD (i0 : Nat) : List DE → Bool
  | [] => true
  | e :: r => match clsOf e.2.2.2.op with
    | .alloc => match Nat.beq e.1 i0 with
      | true => drawD i0 r
      | false => false
    | .pure => drawD i0 r
    | .read => match rdOk e.2.2.2.op, freshFor e.2.2.2.op (e :: r) with
      | true, true => drawD i0 r
      | _, _ => false
    | .heavy => match notRange e.2.2.2.op, e.2.1.testBit i0 with
      | true, true => drawD i0 r
      | _, _ => false
noncomputable def there' (h : Heap) (k : Nat) : Bool := (hget h k).isSome
noncomputable def withPend (s : St) : Option (Nat × AB) → St
  | some (k, blk) => ⟨hset s.h k blk, s.fc⟩
  | none => s
def doneOf (dn : Option Nat) : Option (Nat × AB) → Option Nat
  | some (k, _) => some k
  | none => dn
def isThere (h : Heap) : Option Nat → Prop
  | some k => there' h k = true
  | none => True
/-- h0: the memory that the region found; the new block, where it isn't there yet; its name, where it is -/
def DK (P : Program) (G : Glob) (K : CallF) (l : List Oper) (h0 : Heap) (Q : Ex → Fr → St → Prop) : List Nat → Option (Nat × AB) → Option Nat → Fr → St → Prop
  | [], pend, _, fr, s => pend = none ∧ Q .normal (fr.bump l.length) s
  | j :: js, pend, done, fr, s => ∃ o, l[j]? = some o ∧ ((wantedA fr l.toArray o = false ∧ ∃ fr', fr.put o.dst .undef = some fr' ∧ DK P G K l h0 Q js pend done fr' s) ∨
      (wantedA fr l.toArray o = true ∧ match clsOf o.op with
        | .pure => ∃ fr' v, pureOp P fr o.op = some v ∧ fr.put o.dst v = some fr' ∧ DK P G K l h0 Q js pend done fr' s
        | .read => ∃ fr' v, readOp P G fr h0 o.op = some v ∧ avEq v v = true ∧ fr.put o.dst v = some fr' ∧ DK P G K l h0 Q js pend done fr' s
        | .alloc => pend = none ∧ done = none ∧ ∃ fr' v blk, allocOp P fr (keyOf fr j) o.op = some (v, blk) ∧ hget s.h (keyOf fr j) = none ∧ fr.put o.dst v = some fr' ∧ DK P G K l h0 Q js (some (keyOf fr j, blk)) none fr' s
        | .heavy => ∃ fr' v s', heavy P K fr (keyOf fr j) (withPend s pend) o.op = some [.val v s'] ∧ fr.put o.dst v = some fr' ∧ SameH h0 s'.h ∧
            isThere s'.h (doneOf done pend) ∧ DK P G K l h0 Q js none (doneOf done pend) fr' s'))
/-- the list of what was made, as the run keeps it -/
def MadeIs (i0 : Nat) (h : Heap) (pend : Option (Nat × AB)) (done : Option Nat) (M : Made) : Prop :=
  match pend, done with
  | some (k, blk), _ => M = [(i0, k, blk)] ∧ hget h k = none
  | none, some k => ∃ blk, M = [(i0, k, blk)] ∧ there' h k = true
  | none, none => M = []
theorem SeenK.put {fr fr' : Fr} {h0 : Heap} {fc : Nat} {rs : List (Nat × Nat × Op × AV)} {e : DE} {rest : List DE} {v : AV} (h : SeenOk P G fr ⟨h0, fc⟩ rs (e :: rest)) (hp : fr.put e.2.2.2.dst v = some fr') : SeenOk P G fr' ⟨h0, fc⟩ rs rest := SeenOk.put h hp (SameH.refl _)
theorem addMade_there {i0 b k : Nat} {h : Heap} {blk : AB} (ht : there' h k = true) : addMade b h [(i0, k, blk)] = h := by
  unfold there' at ht
  unfold addMade
  cases hb : b.testBit i0 with
  | false => rfl
  | true =>
    cases hh : hget h k with
    | none => rw [hh] at ht; cases ht
    | some x => rfl
theorem addMade_same {i0 b k : Nat} {h h0 : Heap} {blk : AB} (hs : SameH h0 h) (hn : hget h k = none) : SameH h0 (addMade b h [(i0, k, blk)]) := by
  unfold addMade
  cases hb : b.testBit i0 with
  | false => exact hs
  | true =>
    simp only [hn, addMade, hsetC_eq]
    intro i ab hi hd
    rw [hget_hset]
    split
    · rename_i e; subst e
      have := hs i ab hi hd
      rw [hn] at this; cases this
    · exact hs i ab hi hd
theorem dk_sound {l : List Oper} {i0 : Nat} {h0 : Heap} {c0 : Nat} : ∀ {order : List DE} {js : List Nat} {done : Nat} {fr : Fr} {s : St} {pend : Option (Nat × AB)} {dn : Option Nat} {M : Made} {rs : List (Nat × Nat × Op × AV)}, order.map (·.1) = js → (∀ e ∈ order, l[e.1]? = some e.2.2.2) → drawD i0 order = true → SameH h0 s.h → MadeIs i0 s.h pend dn M → SeenOk P G fr ⟨h0, c0⟩ rs order → DK P G K l h0 Q js pend dn fr s → WR (drawOps P G K l.toArray l.length order done fr s ⟨M, rs⟩) Q
  | [], js, done, fr, s, pend, dn, M, rs, hj, _, _, _, hM, _, hw => by
    subst hj
    obtain ⟨rfl, hw⟩ := hw
    have e1 : addAll s.h M = s.h := by
      unfold MadeIs at hM
      cases dn with
      | none => simp only at hM; subst hM; rfl
      | some k =>
        obtain ⟨blk, rfl, ht⟩ := hM
        unfold there' at ht
        unfold addAll
        cases hh : hget s.h k with
        | none => rw [hh] at ht; cases ht
        | some x => rfl
    simp only [drawOps, e1, St.withH_eq, wr_one]
    exact hw
  | (i, b, c, o) :: rest, js, done, fr, s, pend, dn, M, rs, hj, hl, hc, hsm, hM, hso, hw => by
    subst hj
    simp only [List.map_cons, DK] at hw
    obtain ⟨o', ho, hw⟩ := hw
    have := hl _ List.mem_cons_self
    simp only at this
    rw [this] at ho
    cases ho
    have hl' : ∀ e ∈ rest, l[e.1]? = some e.2.2.2 := fun e he => hl e (List.mem_cons_of_mem _ he)
    have hc' : drawD i0 rest = true := by
      simp only [drawD] at hc
      split at hc
      · split at hc
        · exact hc
        · cases hc
      · exact hc
      · split at hc
        · exact hc
        · cases hc
      · split at hc
        · exact hc
        · cases hc
    rcases hw with ⟨hg, fr', hp, hw⟩ | ⟨hg, hw⟩
    · simp only [drawOps, hg, hp, putK, natC_eq]
      exact dk_sound rfl hl' hc' hsm hM (SeenK.put hso hp) hw
    · simp only [drawOps, hg, dOne]
      cases hcl : clsOf o.op with
      | pure =>
        rw [hcl] at hw
        obtain ⟨fr', v, e, hp, hw⟩ := hw
        simp only [e, putV, hp, putK, natC_eq]
        exact dk_sound rfl hl' hc' hsm hM (SeenK.put hso hp) hw
      | read =>
        rw [hcl] at hw
        obtain ⟨fr', u, e, hav, hp, hw⟩ := hw
        simp only [drawD, hcl] at hc
        split at hc
        · rename_i h1 h2
          have hmore : SameH h0 (addMade b s.h M) := by
            unfold MadeIs at hM
            cases pend with
            | some p => obtain ⟨k, blk⟩ := p; obtain ⟨rfl, hn⟩ := hM; exact addMade_same hsm hn
            | none =>
              cases dn with
              | some k => obtain ⟨blk, rfl, ht⟩ := hM; rw [addMade_there ht]; exact hsm
              | none => simp only at hM; subst hM; exact hsm
          rw [readOp_more hmore h1 e]
          simp only [dRead, hp, putK, natC_eq]
          refine dk_sound (c0 := c0) rfl hl' hc' hsm hM ?_ hw
          have hso' : SeenOk P G fr ⟨h0, c0⟩ ((i, b, o.op, u) :: rs) ((i, b, c, o) :: rest) := by
            intro x hx
            rcases List.mem_cons.1 hx with rfl | hx
            · exact ⟨e, h1, h2, hav⟩
            · exact hso x hx
          exact SeenK.put hso' hp
        · cases hc
      | alloc =>
        rw [hcl] at hw
        obtain ⟨rfl, rfl, fr', v, blk, e, hn, hp, hw⟩ := hw
        have hM0 : M = [] := hM
        subst hM0
        simp only [drawD, hcl] at hc
        split at hc
        · rename_i hi
          have hi := Nat.eq_of_beq_eq_true hi
          subst hi
          simp only [e, dAlloc, hn, hp, putK, natC_eq]
          have hM' : MadeIs i s.h (some (keyOf fr i, blk)) none [(i, keyOf fr i, blk)] := ⟨rfl, hn⟩
          exact dk_sound rfl hl' hc' hsm hM' (SeenK.put hso hp) hw
        · cases hc
      | heavy =>
        rw [hcl] at hw
        obtain ⟨fr', u, s', e, hp, hs, hth, hw⟩ := hw
        simp only [drawD, hcl] at hc
        split at hc
        · rename_i hnr htb
          have e0 : s.withH (addMade b s.h M) = withPend s pend := by
            unfold MadeIs at hM
            cases pend with
            | some p =>
              obtain ⟨k, blk⟩ := p
              obtain ⟨rfl, hn⟩ := hM
              simp only [addMade, htb, hn, hsetC_eq, St.withH_eq, withPend]
            | none =>
              cases dn with
              | some k => obtain ⟨blk, rfl, ht⟩ := hM; rw [addMade_there ht, St.withH_eq]; rfl
              | none => simp only at hM; subst hM; rw [St.withH_eq]; rfl
          have e3 : dHeavy P G K o b i done fr (s.withH (addMade b s.h M)) ⟨M, rs⟩ (fun fr s z => natC (Nat.lor done (2 ^ i)) fun d => drawOps P G K l.toArray l.length rest d fr s z) = dHeavy2 P G o b done fr (addMade b s.h M) ⟨M, rs⟩ (fun fr s z => natC (Nat.lor done (2 ^ i)) fun d => drawOps P G K l.toArray l.length rest d fr s z) (heavy P K fr (keyOf fr i) (s.withH (addMade b s.h M)) o.op) := by
            have e4 : (s.withH (addMade b s.h M)).h = addMade b s.h M := by rw [St.withH_eq]
            unfold dHeavy
            split
            · rename_i h0; rw [h0] at hnr; simp [notRange] at hnr
            · rw [e4]
          dsimp only
          rw [e3, e0, e]
          have hMd : MadeIs i0 s'.h none (doneOf dn pend) M := by
            unfold MadeIs at hM ⊢
            unfold isThere doneOf at hth
            unfold doneOf
            cases pend with
            | some p => obtain ⟨k, blk⟩ := p; obtain ⟨rfl, hn⟩ := hM; exact ⟨blk, rfl, hth⟩
            | none =>
              cases dn with
              | some k => obtain ⟨blk, rfl, ht⟩ := hM; exact ⟨blk, rfl, hth⟩
              | none => exact hM
          have hmore : ∀ b', addMade b' s'.h M = s'.h := by
            intro b'
            unfold MadeIs doneOf at hMd
            cases pend with
            | some p => obtain ⟨k, blk⟩ := p; obtain ⟨blk', rfl, ht⟩ := hMd; exact addMade_there ht
            | none =>
              cases dn with
              | some k => obtain ⟨blk', rfl, ht⟩ := hMd; exact addMade_there ht
              | none => simp only at hMd; subst hMd; rfl
          have e4 : readsOk P G fr s'.h M (readsLeft b rs) = true := by
            have : ∀ (rs : List (Nat × Op × AV)), (∀ x ∈ rs, readOp P G fr s'.h x.2.1 = some x.2.2 ∧ avEq x.2.2 x.2.2 = true) → readsOk P G fr s'.h M rs = true := by
              intro rs
              induction rs with
              | nil => intro _; rfl
              | cons x rs ih =>
                obtain ⟨b', op, v⟩ := x
                intro hx
                obtain ⟨h1, h2⟩ := hx (b', op, v) List.mem_cons_self
                simp only at h1 h2
                unfold readsOk
                rw [hmore, h1]
                simp only [h2]
                exact ih fun x hm => hx x (List.mem_cons_of_mem _ hm)
            refine this _ fun x hx => ?_
            obtain ⟨r, hr⟩ := readsLeft_sub hx
            obtain ⟨h1, h2, _, h4⟩ := hso _ hr
            exact ⟨readOp_more hs h2 h1, h4⟩
          have e5 : asideOk (addMade b s.h M) s'.h M = true := by
            have two : ∀ {h1 : Heap} {k : Nat} {blk : AB}, there' h1 k = true → there' s'.h k = true → asideOk h1 s'.h [(i0, k, blk)] = true := by
              intro h1 k blk t1 t2
              unfold there' at t1 t2
              unfold asideOk
              cases q1 : hget h1 k with
              | none => rw [q1] at t1; cases t1
              | some x =>
                cases q2 : hget s'.h k with
                | none => rw [q2] at t2; cases t2
                | some y => rfl
            unfold MadeIs at hM
            unfold isThere doneOf at hth
            cases pend with
            | some p =>
              obtain ⟨k, blk⟩ := p
              obtain ⟨rfl, hn⟩ := hM
              refine two ?_ hth
              simp only [addMade, htb, hn, hsetC_eq]
              unfold there'
              rw [hget_hset, if_pos rfl]; rfl
            | none =>
              cases dn with
              | some k => obtain ⟨blk, rfl, ht⟩ := hM; rw [addMade_there ht]; exact two ht hth
              | none => simp only at hM; subst hM; rfl
          simp only [dHeavy2, drawOuts, e4, e5, hp, putK, natC_eq]
          have := dk_sound (done := Nat.lor done (2 ^ i)) (order := rest) rfl hl' hc' hs hMd (SeenK.put hso hp) hw
          cases hx : drawOps P G K l.toArray l.length rest (Nat.lor done (2 ^ i)) fr' s' ⟨M, rs⟩ with
          | none => rw [hx] at this; exact this
          | some x => rw [hx] at this; exact this
        · cases hc
/-- A REGION THAT DRAWS ITS ORDER, with a new block of its own. -/
theorem r_drawK {id i0 : Nat} {l : List Oper} {js : List Nat} {F lc n : Nat} {t : T AV} {df : List (AV × List AV)} {rc : Rc} {s : St} (hj : (theOrder l).map (·.1) = js) (hok : (drawOk l (theOrder l) && drawD i0 (theOrder l)) = true) (hk : lc + l.length ≤ 1267650600228229401496703205375)
    (h : DK P G K l s.h Q js none none ⟨F, lc, n, t, df, rc⟩ s) : WR (code P G K m (.region id l.toArray true) ⟨F, lc, n, t, df, rc⟩ s) Q := by
  have hkk : keysOk ⟨F, lc, n, t, df, rc⟩ l.length = true := by rw [keysOk_mk]; exact decide_eq_true hk
  rw [Bool.and_eq_true] at hok
  rw [code]
  unfold region
  simp only [List.toList_toArray, hkk]
  unfold drawn
  simp only [List.toList_toArray, hok.1]
  exact dk_sound (c0 := 0) (i0 := i0) hj theOrder_at hok.2 (SameH.refl _) (show MadeIs i0 s.h none none [] from rfl) (fun x hx => by simp at hx) h
/-! ### rules -/
section
variable {l : List Oper} {h0 : Heap} {j : Nat} {js : List Nat} {fr fr' : Fr} {s s' : St} {dst : Option Tmp} {op : Op} {ty : TypeId} {pos : String} {after : Array Edge} {pend : Option (Nat × AB)} {dn : Option Nat} {v : AV}
theorem k_end {F lc lc' n : Nat} {t : T AV} {df : List (AV × List AV)} {rc : Rc} (hl : lc + l.length = lc') (h : Q .normal ⟨F, lc', n, t, df, rc⟩ s) : DK P G K l h0 Q [] none dn ⟨F, lc, n, t, df, rc⟩ s := by
  subst hl; simp only [DK, bump_mk]; exact ⟨trivial, h⟩
theorem k_pure (ho : l[j]? = some ⟨dst, op, ty, pos, after, none⟩) (hc : clsOf op = .pure) (h : stV fr dst s (pureOp P fr op) = some (fr', s')) (hk : DK P G K l h0 Q js pend dn fr' s') : DK P G K l h0 Q (j :: js) pend dn fr s := by
  obtain ⟨u, e, hp, rfl⟩ := stV_some h
  refine ⟨_, ho, .inr ⟨rfl, ?_⟩⟩
  simp only [hc]
  exact ⟨fr', u, e, hp, hk⟩
theorem k_read (ho : l[j]? = some ⟨dst, op, ty, pos, after, none⟩) (hc : clsOf op = .read) (h : readOp P G fr h0 op = some v) (hv : avEq v v = true) (hp : fr.put dst v = some fr') (hk : DK P G K l h0 Q js pend dn fr' s) : DK P G K l h0 Q (j :: js) pend dn fr s := by
  refine ⟨_, ho, .inr ⟨rfl, ?_⟩⟩
  simp only [hc]
  exact ⟨fr', v, h, hv, hp, hk⟩
theorem k_alloc {blk : AB} (ho : l[j]? = some ⟨dst, op, ty, pos, after, none⟩) (hc : clsOf op = .alloc) (h : allocOp P fr (keyOf fr j) op = some (v, blk)) (hn : hget s.h (keyOf fr j) = none) (hp : fr.put dst v = some fr') (hk : DK P G K l h0 Q js (some (keyOf fr j, blk)) none fr' s) : DK P G K l h0 Q (j :: js) none none fr s := by
  refine ⟨_, ho, .inr ⟨rfl, ?_⟩⟩
  simp only [hc]
  exact ⟨trivial, trivial, fr', v, blk, h, hn, hp, hk⟩
theorem k_heavy1 {k : Nat} {blk : AB} (ho : l[j]? = some ⟨dst, op, ty, pos, after, none⟩) (hc : clsOf op = .heavy) (h : heavy P K fr (keyOf fr j) ⟨hset s.h k blk, s.fc⟩ op = some [.val v s']) (hp : fr.put dst v = some fr') (hs : SameH h0 s'.h) (ht : there' s'.h k = true) (hk : DK P G K l h0 Q js none (some k) fr' s') : DK P G K l h0 Q (j :: js) (some (k, blk)) dn fr s := by
  refine ⟨_, ho, .inr ⟨rfl, ?_⟩⟩
  simp only [hc]
  exact ⟨fr', v, s', h, hp, hs, ht, hk⟩
theorem k_heavy2 {k : Nat} (ho : l[j]? = some ⟨dst, op, ty, pos, after, none⟩) (hc : clsOf op = .heavy) (h : heavy P K fr (keyOf fr j) s op = some [.val v s']) (hp : fr.put dst v = some fr') (hs : SameH h0 s'.h) (ht : there' s'.h k = true) (hk : DK P G K l h0 Q js none (some k) fr' s') : DK P G K l h0 Q (j :: js) none (some k) fr s := by
  refine ⟨_, ho, .inr ⟨rfl, ?_⟩⟩
  simp only [hc]
  exact ⟨fr', v, s', h, hp, hs, ht, hk⟩
end
end Go.Ai

/-! A region that draws its order, with all that it may do: looks, new blocks, acts, calls. -/
namespace Go.Ai
open Go
variable {P : Program} {G : Glob} {K : CallF} {m : Nat} {Q : Ex → Fr → St → Prop}
abbrev Rds := List (Nat × Nat × Op × AV)
def DG (P : Program) (G : Glob) (K : CallF) (l : List Oper) (Q : Ex → Fr → St → Prop) : List (Nat × Nat) → Fr → St → Made → Rds → Prop
  | [], fr, s, M, _ => Q .normal (fr.bump l.length) (s.withH (addAll s.h M))
  | (j, b) :: r, fr, s, M, rs => ∃ o, l[j]? = some o ∧
      ((wantedA fr l.toArray o = false ∧ ∃ fr', fr.put o.dst .undef = some fr' ∧ DG P G K l Q r fr' s M rs) ∨
       (wantedA fr l.toArray o = true ∧ clsOf o.op = .pure ∧ ∃ v fr', pureOp P fr o.op = some v ∧ fr.put o.dst v = some fr' ∧ DG P G K l Q r fr' s M rs) ∨
       (wantedA fr l.toArray o = true ∧ clsOf o.op = .read ∧ ∃ v fr', readOp P G fr (addMade b s.h M) o.op = some v ∧ fr.put o.dst v = some fr' ∧ DG P G K l Q r fr' s M ((j, b, o.op, v) :: rs)) ∨
       (wantedA fr l.toArray o = true ∧ clsOf o.op = .alloc ∧ ∃ v blk fr', allocOp P fr (keyOf fr j) o.op = some (v, blk) ∧ hget s.h (keyOf fr j) = none ∧ fr.put o.dst v = some fr' ∧ DG P G K l Q r fr' s ((j, keyOf fr j, blk) :: M) rs) ∨
       (wantedA fr l.toArray o = true ∧ clsOf o.op = .heavy ∧ (∀ t x, o.op ≠ .range t x) ∧ ∃ outs, heavy P K fr (keyOf fr j) (s.withH (addMade b s.h M)) o.op = some outs ∧
          ∀ x ∈ outs, backQ fr o.dst (fun fr' s' => readsOk P G fr s'.h M (readsLeft b rs) = true ∧ asideOk (addMade b s.h M) s'.h M = true ∧ DG P G K l Q r fr' s' M rs) x))
theorem dg_sound {l : List Oper} : ∀ {order : List DE} {js : List (Nat × Nat)} {done : Nat} {fr : Fr} {s : St} {M : Made} {rs : Rds}, order.map (fun e => (e.1, e.2.1)) = js → (∀ e ∈ order, l[e.1]? = some e.2.2.2) → DG P G K l Q js fr s M rs → WR (drawOps P G K l.toArray l.length order done fr s ⟨M, rs⟩) Q
  | [], js, done, fr, s, M, rs, hj, _, hw => by
    subst hj
    simp only [drawOps, wr_one]
    exact hw
  | (i, b, c, o) :: rest, js, done, fr, s, M, rs, hj, hl, hw => by
    subst hj
    simp only [List.map_cons, DG] at hw
    obtain ⟨o', ho, hw⟩ := hw
    have := hl _ List.mem_cons_self
    simp only at this
    rw [this] at ho
    cases ho
    have hl' : ∀ e ∈ rest, l[e.1]? = some e.2.2.2 := fun e he => hl e (List.mem_cons_of_mem _ he)
    rcases hw with ⟨hg, fr', hp, hw⟩ | ⟨hg, hcl, v, fr', h1, hp, hw⟩ | ⟨hg, hcl, v, fr', h1, hp, hw⟩ | ⟨hg, hcl, v, blk, fr', h1, h2, hp, hw⟩ | ⟨hg, hcl, hr, outs, h1, hbk⟩
    · simp only [drawOps, hg, hp, putK, natC_eq]
      exact dg_sound rfl hl' hw
    · simp only [drawOps, hg, dOne, hcl, h1, putV, hp, putK, natC_eq]
      exact dg_sound rfl hl' hw
    · simp only [drawOps, hg, dOne, hcl, h1, dRead, hp, putK, natC_eq]
      exact dg_sound rfl hl' hw
    · simp only [drawOps, hg, dOne, hcl, h1, dAlloc, h2, hp, putK, natC_eq]
      exact dg_sound rfl hl' hw
    · simp only [drawOps, hg, dOne, hcl]
      have e3 : dHeavy P G K o b i done fr (s.withH (addMade b s.h M)) ⟨M, rs⟩ (fun fr s z => natC (Nat.lor done (2 ^ i)) fun d => drawOps P G K l.toArray l.length rest d fr s z) = dHeavy2 P G o b done fr (addMade b s.h M) ⟨M, rs⟩ (fun fr s z => natC (Nat.lor done (2 ^ i)) fun d => drawOps P G K l.toArray l.length rest d fr s z) (heavy P K fr (keyOf fr i) (s.withH (addMade b s.h M)) o.op) := by
        unfold dHeavy
        split
        · rename_i h0; exact absurd h0 (hr _ _)
        · rw [St.withH_eq]
      rw [e3, h1]
      simp only [dHeavy2]
      refine wr_douts (dst := o.dst) (k := fun fr' s' => readsOk P G fr s'.h M (readsLeft b rs) = true ∧ asideOk (addMade b s.h M) s'.h M = true ∧ DG P G K l Q (rest.map fun e => (e.1, e.2.1)) fr' s' M rs) ?_ hbk
      rintro v s' fr' hp ⟨h2, h3, hw⟩
      simp only [h2, h3, hp, putK, natC_eq]
      exact dg_sound rfl hl' hw
section
variable {S : FuncId → List AV → St → Out → Prop} {l : List Oper} {j b : Nat} {js : List (Nat × Nat)} {fr fr' : Fr} {s s' : St} {M : Made} {rs : Rds} {o : Oper} {v : AV} {f : FuncId} {args : List AV}
theorem r_drawG {id : Nat} {F lc n : Nat} {t : T AV} {df : List (AV × List AV)} {rc : Rc} (hj : (theOrder l).map (fun e => (e.1, e.2.1)) = js) (hok : drawOk l (theOrder l) = true) (hk : lc + l.length ≤ 1267650600228229401496703205375)
    (h : DG P G K l Q js ⟨F, lc, n, t, df, rc⟩ s [] []) : WR (code P G K m (.region id l.toArray true) ⟨F, lc, n, t, df, rc⟩ s) Q := by
  have hkk : keysOk ⟨F, lc, n, t, df, rc⟩ l.length = true := by rw [keysOk_mk]; exact decide_eq_true hk
  rw [code]
  unfold region
  simp only [List.toList_toArray, hkk]
  unfold drawn
  simp only [List.toList_toArray, hok]
  exact dg_sound hj theOrder_at h
theorem g_end {F lc lc' n : Nat} {t : T AV} {df : List (AV × List AV)} {rc : Rc} (hl : lc + l.length = lc') (h : Q .normal ⟨F, lc', n, t, df, rc⟩ (s.withH (addAll s.h M))) : DG P G K l Q [] ⟨F, lc, n, t, df, rc⟩ s M rs := by
  show Q .normal (Fr.bump ⟨F, lc, n, t, df, rc⟩ l.length) _
  rw [bump_mk, hl]; exact h
theorem g_undef (ho : l[j]? = some o) (hw : wantedA fr l.toArray o = false) (hp : fr.put o.dst .undef = some fr') (hk : DG P G K l Q js fr' s M rs) : DG P G K l Q ((j, b) :: js) fr s M rs :=
  ⟨o, ho, .inl ⟨hw, fr', hp, hk⟩⟩
theorem g_pure (ho : l[j]? = some o) (hc : clsOf o.op = .pure) (hw : wantedA fr l.toArray o = true) (hv : pureOp P fr o.op = some v) (hp : fr.put o.dst v = some fr') (hk : DG P G K l Q js fr' s M rs) : DG P G K l Q ((j, b) :: js) fr s M rs :=
  ⟨o, ho, .inr (.inl ⟨hw, hc, v, fr', hv, hp, hk⟩)⟩
theorem g_read (ho : l[j]? = some o) (hc : clsOf o.op = .read) (hw : wantedA fr l.toArray o = true) (hv : readOp P G fr (addMade b s.h M) o.op = some v) (hp : fr.put o.dst v = some fr') (hk : DG P G K l Q js fr' s M ((j, b, o.op, v) :: rs)) : DG P G K l Q ((j, b) :: js) fr s M rs :=
  ⟨o, ho, .inr (.inr (.inl ⟨hw, hc, v, fr', hv, hp, hk⟩))⟩
theorem g_alloc {blk : AB} {key : Nat} (ho : l[j]? = some o) (hc : clsOf o.op = .alloc) (hw : wantedA fr l.toArray o = true) (hke : keyOf fr j = key) (hv : allocOp P fr key o.op = some (v, blk)) (hn : hget s.h key = none) (hp : fr.put o.dst v = some fr') (hk : DG P G K l Q js fr' s ((j, key, blk) :: M) rs) : DG P G K l Q ((j, b) :: js) fr s M rs := by
  subst hke
  exact ⟨o, ho, .inr (.inr (.inr (.inl ⟨hw, hc, v, blk, fr', hv, hn, hp, hk⟩)))⟩
def notRng : Op → Bool
  | .range .. => false
  | _ => true
theorem g_act (ho : l[j]? = some o) (hc : clsOf o.op = .heavy) (hr : notRng o.op = true) (hw : wantedA fr l.toArray o = true) (hv : heavy P K fr (keyOf fr j) (s.withH (addMade b s.h M)) o.op = some [.val v s']) (hp : fr.put o.dst v = some fr')
    (h1 : readsOk P G fr s'.h M (readsLeft b rs) = true) (h2 : asideOk (addMade b s.h M) s'.h M = true) (hk : DG P G K l Q js fr' s' M rs) : DG P G K l Q ((j, b) :: js) fr s M rs :=
  ⟨o, ho, .inr (.inr (.inr (.inr ⟨hw, hc, fun t x e => (by rw [e] at hr; cases hr), _, hv, fun x hx => by cases List.mem_singleton.1 hx; exact ⟨fr', hp, h1, h2, hk⟩⟩)))⟩
theorem g_call (ho : l[j]? = some o) (hw : wantedA fr l.toArray o = true) (hc : callOuts P (KU P G S) fr j (s.withH (addMade b s.h M)) o.op = KUf P G S f args (s.withH (addMade b s.h M))) (hs : SndQ P G f args (s.withH (addMade b s.h M)) (S f args (s.withH (addMade b s.h M))))
    (hk : ∀ x, S f args (s.withH (addMade b s.h M)) x → backQ fr o.dst (fun fr' s' => readsOk P G fr s'.h M (readsLeft b rs) = true ∧ asideOk (addMade b s.h M) s'.h M = true ∧ DG P G (KU P G S) l Q js fr' s' M rs) x) : DG P G (KU P G S) l Q ((j, b) :: js) fr s M rs := by
  obtain ⟨outs, e, hq⟩ := ku_hit hs
  rw [e] at hc
  obtain ⟨h1, h2⟩ := callOuts_heavy hc
  refine ⟨o, ho, .inr (.inr (.inr (.inr ⟨hw, h1, fun t x e => ?_, outs, h2, fun x hx => hk x (hq x hx)⟩)))⟩
  rw [e] at hc; cases hc
end
theorem sndQ_wf {f : FuncId} {args : List AV} {s : St} {Q : Out → Prop} (h : Wf s → SndQ P G f args s Q) : SndQ P G f args s Q := by
  by_cases hw : Wf s
  · exact h hw
  · exact ⟨[], snd_wf fun h1 => absurd h1 hw, by simp⟩
/-! ### a clean memory: nothing at the frame's own names -/
theorem sweep_low {h : Heap} {F : Nat} : Low F h (sweep h F) := fun i hi => by rw [hget_sweep, if_pos hi]
theorem sndQ_clean {f : FuncId} {args : List AV} {h : Heap} {F : Nat} {Q : Out → Prop} (hk : ∀ h0, Wf ⟨h0, F⟩ → Low F h h0 → (∀ i, ky F 0 ≤ i → hget h0 i = none) → SndQ P G f args ⟨h0, F⟩ Q) : SndQ P G f args ⟨h, F⟩ Q := by
  by_cases hw : Wf ⟨h, F⟩
  · have hal := alike_sweep hw
    have hw0 : Wf ⟨sweep h F, F⟩ := by
      intro i ab hi hd
      simp only at hi
      rw [hget_sweep] at hi
      split at hi
      · assumption
      · cases hi
    obtain ⟨outs, h1, h2⟩ := hk (sweep h F) hw0 sweep_low fun i hi => by rw [hget_sweep, if_neg (by omega)]
    refine ⟨outs, ?_, h2⟩
    intro base ρ w vs rv rm
    have := h1 base ρ w vs rv (hal.rm rm)
    refine this.mono ?_
    rintro e w' ⟨ρ', ⟨v, s', u, h3, h4, h5, h6⟩ | ⟨v, s', u, h3, h4, h5, h6⟩⟩
    · exact ⟨ρ', .inl ⟨v, s', u, h3, h4, h5, hal.symm.adv (fun _ _ _ => Iff.rfl) h6⟩⟩
    · exact ⟨ρ', .inr ⟨v, s', u, h3, h4, h5, hal.symm.adv (fun _ _ _ => Iff.rfl) h6⟩⟩
  · exact ⟨[], snd_wf fun h1 => absurd h1 hw, by simp⟩
end Go.Ai

/-! Rings and orders of edges: the searches, the marks and the counts tell the same. -/
namespace Go.Ai
open Go
/-! ### edges -/
def okE (n : Nat) (e : Int × Int) : Prop := 0 ≤ e.1 ∧ e.1 < n ∧ 0 ≤ e.2 ∧ e.2 < n
def Ed (n : Nat) (E : List (Int × Int)) (u v : Nat) : Prop := ((u : Int), (v : Int)) ∈ E ∧ u < n ∧ v < n
inductive Pa (R : Nat → Nat → Prop) : Nat → Nat → Prop where
  | one {a b : Nat} : R a b → Pa R a b
  | more {a b c : Nat} : Pa R a b → R b c → Pa R a c
theorem Pa.trans {R : Nat → Nat → Prop} {a b c : Nat} (h : Pa R a b) (k : Pa R b c) : Pa R a c := by
  induction k with
  | one r => exact .more h r
  | more _ r ih => exact .more ih r
theorem Pa.head {R : Nat → Nat → Prop} {a b c : Nat} (h : R a b) (k : Pa R b c) : Pa R a c := Pa.trans (.one h) k
theorem Pa.lt {n : Nat} {E : List (Int × Int)} {a b : Nat} (h : Pa (Ed n E) a b) : a < n ∧ b < n := by
  induction h with
  | one r => exact ⟨r.2.1, r.2.2⟩
  | more _ r ih => exact ⟨ih.1, r.2.2⟩
noncomputable def ringsL (n : Nat) (E : List (Int × Int)) : List Int := ((List.range n).filter fun i => dec (Pa (Ed n E) i i)).map Int.ofNat
/-! ### the lists of a graph -/
noncomputable def outs (n : Nat) (E : List (Int × Int)) (u : Nat) : List Int := (E.filter fun e => dec (okE n e ∧ e.1 = u)).map (·.2)
noncomputable def gOf (n : Nat) (E : List (Int × Int)) : List (List Int) := (List.range n).map (outs n E)
theorem gOf_len (n : Nat) (E : List (Int × Int)) : (gOf n E).length = n := by simp [gOf]
theorem gOf_get {n : Nat} {E : List (Int × Int)} {u : Nat} (h : u < n) : (gOf n E)[u]? = some (outs n E u) := by simp [gOf, h]
theorem mem_outs {n : Nat} {E : List (Int × Int)} {u : Nat} {x : Int} : x ∈ outs n E u ↔ ∃ v : Nat, x = v ∧ Ed n E u v := by
  unfold outs
  rw [List.mem_map]
  constructor
  · rintro ⟨e, he, rfl⟩
    obtain ⟨h1, h2⟩ := List.mem_filter.1 he
    obtain ⟨⟨a1, a2, a3, a4⟩, a5⟩ := dec_iff.1 h2
    refine ⟨e.2.toNat, by omega, ?_, by omega, by omega⟩
    rw [show ((e.2.toNat : Nat) : Int) = e.2 by omega, ← a5]
    exact h1
  · rintro ⟨v, rfl, h1, h2, h3⟩
    exact ⟨(u, v), List.mem_filter.2 ⟨h1, dec_iff.2 ⟨⟨by simp, by simp; omega, by simp, by simp; omega⟩, rfl⟩⟩, rfl⟩
theorem outs_app (n : Nat) (E : List (Int × Int)) (e : Int × Int) (u : Nat) : outs n (E ++ [e]) u = if dec (okE n e ∧ e.1 = u) = true then outs n E u ++ [e.2] else outs n E u := by
  unfold outs
  rw [List.filter_append, List.map_append]
  cases hd : dec (okE n e ∧ e.1 = u) <;> simp [hd]
theorem outs_len (n : Nat) (E : List (Int × Int)) (u : Nat) : (outs n E u).length ≤ E.length := by
  unfold outs
  rw [List.length_map]
  exact List.length_filter_le _ _
theorem gOf_hit {n : Nat} {E : List (Int × Int)} {e : Int × Int} {u : Nat} (hu : e.1 = u) (hok : okE n e) : gOf n (E ++ [e]) = (gOf n E).set u (outs n E u ++ [e.2]) := by
  apply List.ext_getElem?
  intro k
  rw [List.getElem?_set]
  by_cases hk : k < n
  · rw [gOf_get hk]
    by_cases huk : u = k
    · subst huk
      rw [if_pos rfl, if_pos (by rw [gOf_len]; exact hk), outs_app, if_pos (dec_t ⟨hok, hu⟩)]
    · rw [if_neg huk, gOf_get hk, outs_app, if_neg]
      rw [dec_iff]
      rintro ⟨_, h⟩
      omega
  · have h1 : (gOf n (E ++ [e]))[k]? = none := List.getElem?_eq_none (by rw [gOf_len]; omega)
    have h2 : (gOf n E)[k]? = none := List.getElem?_eq_none (by rw [gOf_len]; omega)
    rw [h1, h2]
    split
    · rw [if_neg (by rw [gOf_len]; omega)]
    · rfl
theorem gOf_miss {n : Nat} {E : List (Int × Int)} {e : Int × Int} (hok : ¬ okE n e) : gOf n (E ++ [e]) = gOf n E := by
  unfold gOf
  refine List.map_congr_left fun u _ => ?_
  rw [outs_app, if_neg]
  rw [dec_iff]
  exact fun h => hok h.1
theorem gOf_nil (n : Nat) : gOf n [] = List.replicate n [] := by
  unfold gOf
  apply List.ext_getElem?
  intro k
  rw [List.getElem?_map, List.getElem?_replicate]
  by_cases hk : k < n
  · rw [if_pos hk, List.getElem?_range hk]; rfl
  · rw [if_neg hk, List.getElem?_eq_none (by simpa using hk)]; rfl
/-! ### what is to be looked at yet -/
def rest : List Bool → List (List Int) → Nat
  | b :: bs, g :: gs => (if b = true then 0 else g.length) + rest bs gs
  | _, _ => 0
theorem rest_set : ∀ {b : List Bool} {G : List (List Int)} {k : Nat} {g : List Int}, b[k]? = some false → G[k]? = some g → rest (b.set k true) G + g.length = rest b G
  | [], _, k, g, h, _ => by simp at h
  | _ :: _, [], k, g, _, h => by simp at h
  | b :: bs, x :: gs, 0, g, h, h2 => by
    simp at h h2
    subst h h2
    simp [rest]; omega
  | b :: bs, x :: gs, k + 1, g, h, h2 => by
    have ih := rest_set (b := bs) (G := gs) (k := k) (g := g) (by simpa using h) (by simpa using h2)
    simp only [List.set_cons_succ, rest]
    omega
theorem rest_le : ∀ (b : List Bool) (G : List (List Int)), rest b G ≤ (G.map List.length).sum
  | [], _ => by simp [rest]
  | _ :: _, [] => by simp [rest]
  | b :: bs, g :: gs => by
    have := rest_le bs gs
    simp only [rest, List.map_cons, List.sum_cons]
    split <;> omega
theorem sum_map_le {α : Type} {f : α → Nat} {m : Nat} : ∀ {l : List α}, (∀ x ∈ l, f x ≤ m) → (l.map f).sum ≤ l.length * m
  | [], _ => by simp
  | x :: l, h => by
    have h1 := h x List.mem_cons_self
    have h2 := sum_map_le (l := l) fun y hy => h y (List.mem_cons_of_mem _ hy)
    simp only [List.map_cons, List.sum_cons, List.length_cons, Nat.add_mul]
    omega
theorem gOf_sum (n : Nat) (E : List (Int × Int)) : ((gOf n E).map List.length).sum ≤ n * E.length := by
  have := sum_map_le (l := gOf n E) (f := List.length) (m := E.length) fun x hx => by
    obtain ⟨u, _, rfl⟩ := List.mem_map.1 hx
    exact outs_len n E u
  rwa [gOf_len] at this
/-! ### the search for a ring -/
structure QI (n : Nat) (E : List (Int × Int)) (i : Nat) (b : List Bool) (look : List Int) : Prop where
  len : b.length = n
  rng : ∀ x ∈ look, ∃ k : Nat, x = k ∧ k < n ∧ Pa (Ed n E) i k
  seen : ∀ k : Nat, b[k]? = some true → Pa (Ed n E) i k
  start : ∀ v, Ed n E i v → b[v]? = some true ∨ (v : Int) ∈ look
  closed : ∀ k v, b[k]? = some true → Ed n E k v → b[v]? = some true ∨ (v : Int) ∈ look
theorem QI.init (n : Nat) (E : List (Int × Int)) (i : Nat) : QI n E i (List.replicate n false) (outs n E i) := by
  have hf : ∀ k : Nat, ¬ (List.replicate n false)[k]? = some true := by
    intro k h
    rw [List.getElem?_replicate] at h
    split at h <;> simp at h
  refine ⟨by simp, ?_, fun k h => absurd h (hf k), ?_, fun k v h => absurd h (hf k)⟩
  · intro x hx
    obtain ⟨v, rfl, h⟩ := mem_outs.1 hx
    exact ⟨v, rfl, h.2.2, .one h⟩
  · intro v h
    exact .inr (mem_outs.2 ⟨v, rfl, h⟩)
theorem QI.old {n : Nat} {E : List (Int × Int)} {i k : Nat} {b : List Bool} {look : List Int} (h : QI n E i b ((k : Int) :: look)) (hk : b[k]? = some true) : QI n E i b look := by
  have key : ∀ v : Nat, (b[v]? = some true ∨ (v : Int) ∈ (k : Int) :: look) → b[v]? = some true ∨ (v : Int) ∈ look := by
    rintro v (h1 | h1)
    · exact .inl h1
    · rcases List.mem_cons.1 h1 with e | e
      · have : v = k := by omega
        subst this; exact .inl hk
      · exact .inr e
  exact ⟨h.len, fun x hx => h.rng x (List.mem_cons_of_mem _ hx), h.seen, fun v hv => key v (h.start v hv), fun j v hj hv => key v (h.closed j v hj hv)⟩
theorem set_true {b : List Bool} {k v : Nat} (hk : k < b.length) : (b.set k true)[v]? = some true ↔ v = k ∨ b[v]? = some true := by
  rw [List.getElem?_set]
  by_cases e : k = v
  · subst e; simp [hk]
  · rw [if_neg e]
    constructor
    · exact .inr
    · rintro (h | h)
      · exact absurd h.symm e
      · exact h
theorem QI.new {n : Nat} {E : List (Int × Int)} {i k : Nat} {b : List Bool} {look : List Int} (h : QI n E i b ((k : Int) :: look)) (hk : k < n) : QI n E i (b.set k true) (look ++ outs n E k) := by
  have hkb : k < b.length := by rw [h.len]; exact hk
  obtain ⟨k', e, _, hpk⟩ := h.rng k List.mem_cons_self
  have : k = k' := by omega
  subst this
  have key : ∀ v : Nat, (b[v]? = some true ∨ (v : Int) ∈ (k : Int) :: look) → (b.set k true)[v]? = some true ∨ (v : Int) ∈ look ++ outs n E k := by
    rintro v (h1 | h1)
    · exact .inl ((set_true hkb).2 (.inr h1))
    · rcases List.mem_cons.1 h1 with e | e
      · have : v = k := by omega
        exact .inl ((set_true hkb).2 (.inl this))
      · exact .inr (List.mem_append_left _ e)
  refine ⟨by simpa using h.len, ?_, ?_, fun v hv => key v (h.start v hv), ?_⟩
  · intro x hx
    rcases List.mem_append.1 hx with hx | hx
    · exact h.rng x (List.mem_cons_of_mem _ hx)
    · obtain ⟨v, rfl, hv⟩ := mem_outs.1 hx
      exact ⟨v, rfl, hv.2.2, .more hpk hv⟩
  · intro j hj
    rcases (set_true hkb).1 hj with rfl | hj
    · exact hpk
    · exact h.seen j hj
  · intro j v hj hv
    rcases (set_true hkb).1 hj with rfl | hj
    · exact .inr (List.mem_append_right _ (mem_outs.2 ⟨v, rfl, hv⟩))
    · exact key v (h.closed j v hj hv)
/-- THE SEARCH's END: nothing to be looked at, or the ring is found -/
theorem QI.done {n : Nat} {E : List (Int × Int)} {i : Nat} {b : List Bool} {look : List Int} (h : QI n E i b look) (he : look = [] ∨ b[i]? = some true) : b[i]? = some true ↔ Pa (Ed n E) i i := by
  constructor
  · exact h.seen i
  · intro hp
    rcases he with rfl | he
    · have all : ∀ v, Pa (Ed n E) i v → b[v]? = some true := by
        intro v hv
        induction hv with
        | one r => rcases h.start _ r with h | h; exact h; cases h
        | more _ r ih => rcases h.closed _ _ ih r with h | h; exact h; cases h
      exact all i hp
    · exact he
/-! ### the marks -/
structure RI (n : Nat) (E : List (Int × Int)) (s : Nat) (b : List Bool) : Prop where
  len : b.length = n
  reach : ∀ k : Nat, b[k]? = some true → Pa (Ed n E) s k
def shut (n : Nat) (s : Nat) (b : List Bool) (e : Int × Int) : Prop := okE n e → (e.1 = s ∨ b[e.1.toNat]? = some true) → b[e.2.toNat]? = some true
theorem RI.init (n : Nat) (E : List (Int × Int)) (s : Nat) : RI n E s (List.replicate n false) := by
  refine ⟨by simp, fun k h => ?_⟩
  rw [List.getElem?_replicate] at h
  split at h <;> simp at h
theorem RI.mark {n : Nat} {E : List (Int × Int)} {s : Nat} {b : List Bool} (h : RI n E s b) (hs : s < n) {e : Int × Int} (he : e ∈ E) (hok : okE n e) (hf : e.1 = s ∨ b[e.1.toNat]? = some true) : RI n E s (b.set e.2.toNat true) := by
  obtain ⟨h1, h2, h3, h4⟩ := hok
  have hr : Ed n E e.1.toNat e.2.toNat := ⟨by rw [show ((e.1.toNat : Nat) : Int) = e.1 by omega, show ((e.2.toNat : Nat) : Int) = e.2 by omega]; exact he, by omega, by omega⟩
  refine ⟨by simpa using h.len, fun k hk => ?_⟩
  rcases (set_true (by rw [h.len]; omega)).1 hk with rfl | hk
  · rcases hf with hf | hf
    · rw [hf] at hr
      simp only [Int.toNat_natCast] at hr
      exact .one hr
    · exact .more (h.reach _ hf) hr
  · exact h.reach k hk
theorem RI.done {n : Nat} {E : List (Int × Int)} {s : Nat} {b : List Bool} (h : RI n E s b) (hc : ∀ e ∈ E, shut n s b e) (k : Nat) : b[k]? = some true ↔ Pa (Ed n E) s k := by
  constructor
  · exact h.reach k
  · intro hp
    have one : ∀ u v, Ed n E u v → (u = s ∨ b[u]? = some true) → b[v]? = some true := by
      intro u v hr hu
      have := hc _ hr.1 ⟨by simp, by simp; exact hr.2.1, by simp, by simp; exact hr.2.2⟩ (by
        rcases hu with rfl | hu
        · exact .inl rfl
        · exact .inr (by simpa using hu))
      simpa using this
    induction hp with
    | one r => exact one _ _ r (.inl rfl)
    | more _ r ih => exact one _ _ r (.inr ih)
/-- how many are not marked -/
def falses (b : List Bool) : Nat := (b.filter (!·)).length
theorem falses_set : ∀ {b : List Bool} {k : Nat}, b[k]? = some false → falses (b.set k true) + 1 = falses b
  | [], k, h => by simp at h
  | x :: b, 0, h => by simp at h; subst h; simp [falses]
  | x :: b, k + 1, h => by
    have := falses_set (b := b) (k := k) (by simpa using h)
    cases x <;> simp only [falses, List.set_cons_succ, List.filter_cons, Bool.not_true, Bool.not_false, if_true, List.length_cons, Bool.false_eq_true, if_false] at this ⊢ <;> omega
theorem falses_le (b : List Bool) : falses b ≤ b.length := List.length_filter_le _ _
/-! ### the order -/
def free (n : Nat) (E : List (Int × Int)) (D : List Bool) (v : Nat) : Prop := D[v]? = some false ∧ ∀ u, Ed n E u v → D[u]? = some true
noncomputable def nextF (n : Nat) (E : List (Int × Int)) (D : List Bool) : Option Nat := (List.range n).find? fun v => dec (free n E D v)
/-- after so many steps: what is done, and the order; none: it cannot go on -/
noncomputable def ordN (n : Nat) (E : List (Int × Int)) : Nat → Option (List Bool × List Int)
  | 0 => some (List.replicate n false, [])
  | k + 1 => match ordN n E k with
    | some (D, o) => match nextF n E D with
      | some v => some (D.set v true, o ++ [(v : Int)])
      | none => none
    | none => none
theorem ordN_none {n : Nat} {E : List (Int × Int)} {k : Nat} (h : ordN n E k = none) : ∀ j, ordN n E (k + j) = none
  | 0 => h
  | j + 1 => by
    have := ordN_none h j
    show ordN n E (k + j + 1) = none
    simp only [ordN, this]
structure OI (n : Nat) (E : List (Int × Int)) (k : Nat) (D : List Bool) (o : List Int) : Prop where
  len : D.length = n
  size : o.length = k
  left : falses D + k = n
  pred : ∀ u v, D[v]? = some true → Ed n E u v → D[u]? = some true
  noring : ∀ v, D[v]? = some true → ¬ Pa (Ed n E) v v
  low : ∀ x ∈ o, 0 ≤ x ∧ x < n
theorem nextF_some {n : Nat} {E : List (Int × Int)} {D : List Bool} {v : Nat} (h : nextF n E D = some v) : v < n ∧ free n E D v ∧ ∀ w, w < v → ¬ free n E D w := by
  unfold nextF at h
  have h1 := List.find?_some h
  have h2 := List.mem_of_find?_eq_some h
  refine ⟨List.mem_range.1 h2, dec_iff.1 h1, fun w hw hf => ?_⟩
  obtain ⟨ar, bs, e, hall⟩ := (List.find?_eq_some_iff_append.1 h).2
  have hwin : w ∈ ar := by
    have hr : (List.range n)[w]? = some w := List.getElem?_range (by have := List.mem_range.1 h2; omega)
    have hv : ar.length = v := by
      have hv1 : (List.range n)[ar.length]? = some v := by rw [e]; simp
      have hl := (List.getElem?_eq_some_iff.1 hv1).1
      rw [List.getElem?_range (by simpa using hl)] at hv1
      exact Option.some.inj hv1
    rw [e, List.getElem?_append_left (by omega)] at hr
    exact List.mem_of_getElem? hr
  have := hall w hwin
  rw [dec_t hf] at this
  simp at this
theorem nextF_none {n : Nat} {E : List (Int × Int)} {D : List Bool} (h : nextF n E D = none) : ∀ v, v < n → ¬ free n E D v := by
  intro v hv hf
  have := List.find?_eq_none.1 h v (List.mem_range.2 hv)
  rw [dec_t hf] at this
  simp at this
theorem nextF_is {n : Nat} {E : List (Int × Int)} {D : List Bool} {v : Nat} (hv : v < n) (hf : free n E D v) (hl : ∀ w, w < v → ¬ free n E D w) : nextF n E D = some v := by
  cases h : nextF n E D with
  | none => exact absurd hf (nextF_none h v hv)
  | some w =>
    obtain ⟨h1, h2, h3⟩ := nextF_some h
    rcases Nat.lt_trichotomy v w with h4 | h4 | h4
    · exact absurd hf (h3 v h4)
    · rw [h4]
    · exact absurd h2 (hl w h4)
theorem nextF_not {n : Nat} {E : List (Int × Int)} {D : List Bool} (hl : ∀ w, w < n → ¬ free n E D w) : nextF n E D = none := by
  cases h : nextF n E D with
  | none => rfl
  | some w => obtain ⟨h1, h2, _⟩ := nextF_some h; exact absurd h2 (hl w h1)
theorem ordN_inv {n : Nat} {E : List (Int × Int)} : ∀ {k : Nat} {D : List Bool} {o : List Int}, ordN n E k = some (D, o) → OI n E k D o
  | 0, D, o, h => by
    simp only [ordN, Option.some.injEq, Prod.mk.injEq] at h
    obtain ⟨rfl, rfl⟩ := h
    have hf : ∀ k : Nat, ¬ (List.replicate n false)[k]? = some true := by
      intro k h
      rw [List.getElem?_replicate] at h
      split at h <;> simp at h
    exact ⟨by simp, rfl, by simp [falses], fun u v h => absurd h (hf v), fun v h => absurd h (hf v), by simp⟩
  | k + 1, D, o, h => by
    simp only [ordN] at h
    split at h
    · rename_i D0 o0 h0
      have ih := ordN_inv h0
      split at h
      · rename_i v hv
        simp only [Option.some.injEq, Prod.mk.injEq] at h
        obtain ⟨rfl, rfl⟩ := h
        obtain ⟨h1, ⟨h2, h3⟩, _⟩ := nextF_some hv
        have hvl : v < D0.length := by rw [ih.len]; exact h1
        have hfs := falses_set h2
        have hleft := ih.left
        refine ⟨by simpa using ih.len, by simp [ih.size], by omega, ?_, ?_, ?_⟩
        · intro u w hw hr
          rcases (set_true hvl).1 hw with rfl | hw
          · exact (set_true hvl).2 (.inr (h3 u hr))
          · exact (set_true hvl).2 (.inr (ih.pred u w hw hr))
        · intro w hw hp
          have back : ∀ a c, Pa (Ed n E) a c → D0[c]? = some true → D0[a]? = some true := by
            intro a c hac
            induction hac with
            | one r => exact fun h => ih.pred _ _ h r
            | more _ r ih2 => exact fun h => ih2 (ih.pred _ _ h r)
          rcases (set_true hvl).1 hw with rfl | hw
          · have hin : D0[w]? = some true := by
              cases hp with
              | one r => exact h3 _ r
              | more hq r => exact back _ _ hq (h3 _ r)
            rw [h2] at hin; cases hin
          · exact ih.noring w hw hp
        · intro x hx
          rcases List.mem_append.1 hx with hx | hx
          · exact ih.low x hx
          · rw [List.mem_singleton] at hx; subst hx; omega
      · cases h
    · cases h
/-- where each has one ahead of it among so many, there is a ring -/
theorem ring_of {R : Nat → Nat → Prop} {n : Nat} {U : Nat → Prop} (hU : ∀ u, U u → u < n) (hp : ∀ u, U u → ∃ p, U p ∧ R p u) {u0 : Nat} (h0 : U u0) : ∃ u, U u ∧ Pa R u u := by
  refine Classical.byContradiction fun hno => ?_
  have irr : ∀ u, U u → ¬ Pa R u u := fun u hu hr => hno ⟨u, hu, hr⟩
  have key : ∀ c u, U u → ((List.range n).filter fun w => dec (U w ∧ Pa R w u)).length = c → False := by
    intro c
    induction c using Nat.strongRecOn with
    | _ c ih =>
      intro u hu hc
      obtain ⟨p, hpU, hpr⟩ := hp u hu
      refine ih ((List.range n).filter fun w => dec (U w ∧ Pa R w p)).length ?_ p hpU rfl
      rw [← hc]
      have hsub : ∀ l : List Nat, (l.filter fun w => dec (U w ∧ Pa R w p)).length ≤ (l.filter fun w => dec (U w ∧ Pa R w u)).length ∧
          (p ∈ l → (l.filter fun w => dec (U w ∧ Pa R w p)).length < (l.filter fun w => dec (U w ∧ Pa R w u)).length) := by
        intro l
        induction l with
        | nil => simp
        | cons x l ihl =>
          simp only [List.filter_cons]
          by_cases hx : U x ∧ Pa R x p
          · have hx2 : U x ∧ Pa R x u := ⟨hx.1, .more hx.2 hpr⟩
            rw [dec_t hx, dec_t hx2]
            simp only [if_true, List.length_cons]
            refine ⟨by have := ihl.1; omega, fun hm => ?_⟩
            rcases List.mem_cons.1 hm with rfl | hm
            · exact absurd hx.2 (irr _ hpU)
            · have := ihl.2 hm; omega
          · rw [dec_f hx]
            simp only [Bool.false_eq_true, if_false]
            by_cases hx2 : U x ∧ Pa R x u
            · rw [dec_t hx2]
              simp only [if_true, List.length_cons]
              have := ihl.1
              exact ⟨by omega, fun _ => by omega⟩
            · rw [dec_f hx2]
              simp only [Bool.false_eq_true, if_false]
              refine ⟨ihl.1, fun hm => ?_⟩
              rcases List.mem_cons.1 hm with rfl | hm
              · exact absurd ⟨hpU, .one hpr⟩ hx2
              · exact ihl.2 hm
      exact (hsub (List.range n)).2 (List.mem_range.2 (hU p hpU))
  exact key _ u0 h0 rfl
theorem falses_pos : ∀ {b : List Bool}, 0 < falses b → ∃ k : Nat, b[k]? = some false
  | [], h => by simp [falses] at h
  | x :: b, h => by
    cases x with
    | false => exact ⟨0, rfl⟩
    | true =>
      obtain ⟨k, hk⟩ := falses_pos (b := b) (by simpa [falses] using h)
      exact ⟨k + 1, by simpa using hk⟩
/-- no ring: it goes on -/
theorem next_of_noring {n : Nat} {E : List (Int × Int)} {k : Nat} {D : List Bool} {o : List Int} (h : OI n E k D o) (hk : k < n) (hn : ringsL n E = []) : ∃ v, nextF n E D = some v := by
  cases hx : nextF n E D with
  | some v => exact ⟨v, rfl⟩
  | none =>
    exfalso
    have hno := nextF_none hx
    obtain ⟨u0, hu0⟩ := falses_pos (b := D) (by have := h.left; omega)
    obtain ⟨u, hu, hr⟩ := ring_of (R := Ed n E) (n := n) (U := fun u => D[u]? = some false) (fun u hu => by
      have := (List.getElem?_eq_some_iff.1 hu).1
      rw [h.len] at this; exact this) (fun u hu => by
      have hlt : u < n := by
        have := (List.getElem?_eq_some_iff.1 hu).1
        rw [h.len] at this; exact this
      have := hno u hlt
      refine Classical.byContradiction fun hne => this ⟨hu, fun p hp => ?_⟩
      cases hD : D[p]? with
      | none =>
        have := List.getElem?_eq_none_iff.1 hD
        have := hp.2.1
        rw [h.len] at *
        omega
      | some b =>
        cases b with
        | true => rfl
        | false => exact absurd ⟨p, hD, hp⟩ hne) hu0
    have hin : (u : Int) ∈ ringsL n E := List.mem_map.2 ⟨u, List.mem_filter.2 ⟨List.mem_range.2 hr.lt.1, dec_t hr⟩, rfl⟩
    rw [hn] at hin; cases hin
theorem ordN_some {n : Nat} {E : List (Int × Int)} (hn : ringsL n E = []) : ∀ k, k ≤ n → ∃ D o, ordN n E k = some (D, o)
  | 0, _ => ⟨_, _, rfl⟩
  | k + 1, hk => by
    obtain ⟨D, o, h⟩ := ordN_some hn k (by omega)
    obtain ⟨v, hv⟩ := next_of_noring (ordN_inv h) (by omega) hn
    exact ⟨D.set v true, o ++ [(v : Int)], by simp only [ordN, h, hv]⟩
/-- a ring: it cannot come to the end -/
theorem ordN_ring {n : Nat} {E : List (Int × Int)} (hn : ringsL n E ≠ []) : ordN n E n = none := by
  cases h : ordN n E n with
  | none => rfl
  | some x =>
    obtain ⟨D, o⟩ := x
    exfalso
    have hi := ordN_inv h
    apply hn
    refine List.map_eq_nil_iff.2 (List.filter_eq_nil_iff.2 fun u hu hd => ?_)
    have hp := dec_iff.1 hd
    have hf : falses D = 0 := by have := hi.left; omega
    have hu' := List.mem_range.1 hu
    cases hD : D[u]? with
    | none => have := List.getElem?_eq_none_iff.1 hD; rw [hi.len] at this; omega
    | some b =>
      cases b with
      | true => exact hi.noring u hD hp
      | false =>
        have := falses_set hD
        omega
end Go.Ai

/-! Rows of single cells; what a drawn region asks of its numbers. -/
namespace Go.Ai
open Go
variable {P : Program} {G : Glob}
noncomputable def aRow (xs : List AV) : AB := mkRow xs 1
theorem rd_a {xs : List AV} {j : Nat} {v : AV} (h : xs[j]? = some v) : rdAB (some (aRow xs)) (j * 1) 1 = some [v] := by
  have hj := (List.getElem?_eq_some_iff.1 h).1
  rw [aRow, rdAB_row, if_pos (by omega), Nat.mul_one]
  rw [List.getElem?_eq_getElem hj] at h
  rw [List.drop_eq_getElem_cons hj, Option.some.inj h]
  rfl
theorem wr_a {h : Heap} {id : Nat} {xs : List AV} {j : Nat} {v : AV} (hj : j < xs.length) (hc : isCell v = true) : wrAB h id (some (aRow xs)) (j * 1) [v] = some (hset h id (aRow (xs.set j v))) := by
  rw [aRow, wrAB_row, if_pos ⟨by simp only [List.length_cons, List.length_nil]; omega, by simp [allCell, hc]⟩, Nat.mul_one]
  simp only [ovr]
  rfl
theorem repl_one (x : AV) (n : Nat) : repl [x] n = List.replicate n x := by
  induction n with
  | zero => rfl
  | succ n ih => rw [repl, ih]; rfl
theorem nMS_a {e : TypeId} {by' key n : Nat} {z : AV} (hs : sizeT P e = some 1) (hb : bytesT P e = some by') (hz : zeroT P e = some z) (hzc : z.cells = [z]) (hn : by' * n ≤ 1073741824) (hn2 : n ≤ 1073741824) (htg : tagA P e = 0 := by kernel_rfl) :
    nMS P key (some (.slice e)) (some (.int .i64 (n : Int))) (some (.int .i64 (n : Int))) = some (.slice key 0 0 n (some n), aRow (List.replicate n z)) := by
  have e1 : Nat.ble n n = true := Nat.ble_eq_true_of_le (Nat.le_refl _)
  have e2 : Nat.ble (by' * n) 1073741824 = true := Nat.ble_eq_true_of_le hn
  have e3 : Nat.ble n 1073741824 = true := Nat.ble_eq_true_of_le hn2
  have e4 : Nat.blt 0 1 = true := rfl
  have e5 : Nat.beq 1 1 = true := rfl
  simp only [nMS, nMS1, nMS2, natOf_c, hs, hb, hz, hzc, e1, e2, e3, e4, List.length_cons, List.length_nil, Nat.zero_add, e5, Bool.and_self, htg, rowT_mk, mkRowT_0, repl_one]
  rfl
/-! ### drawn regions -/
theorem addMade_nil (b : Nat) (h : Heap) : addMade b h [] = h := rfl
noncomputable def mad1 (t : Bool) (o : Option AB) (x y : Heap) : Heap := match t with
  | true => match o with
    | none => x
    | some _ => y
  | false => y
theorem addMade_cons (b : Nat) (h : Heap) (j k : Nat) (blk : AB) (r : Made) : addMade b h ((j, k, blk) :: r) = mad1 (b.testBit j) (hget h k) (addMade b (hset h k blk) r) (addMade b h r) := by
  simp only [addMade, hsetC_eq]
  cases b.testBit j with
  | false => rfl
  | true => cases hget h k <;> rfl
theorem mad1_t (x y : Heap) : mad1 true none x y = x := rfl
theorem mad1_o (a : AB) (x y : Heap) : mad1 true (some a) x y = y := rfl
theorem mad1_f (o : Option AB) (x y : Heap) : mad1 false o x y = y := rfl
theorem addAll_nil (h : Heap) : addAll h [] = h := rfl
theorem addAll_cons (h : Heap) (j k : Nat) (blk : AB) (r : Made) : addAll h ((j, k, blk) :: r) = mad1 true (hget h k) (addAll (hset h k blk) r) (addAll h r) := by
  simp only [addAll, hsetC_eq]
  cases hget h k <;> rfl
theorem readsLeft_nil (b : Nat) : readsLeft b [] = [] := rfl
noncomputable def rdl1 (t : Bool) (x : Nat × Op × AV) (r : List (Nat × Op × AV)) : List (Nat × Op × AV) := match t with
  | true => r
  | false => x :: r
theorem readsLeft_cons (b r b' : Nat) (op : Op) (v : AV) (rest : Rds) : readsLeft b ((r, b', op, v) :: rest) = rdl1 (b.testBit r) (b', op, v) (readsLeft b rest) := by
  simp only [readsLeft]
  cases b.testBit r <;> rfl
theorem rdl1_t (x : Nat × Op × AV) (r : List (Nat × Op × AV)) : rdl1 true x r = r := rfl
theorem rdl1_f (x : Nat × Op × AV) (r : List (Nat × Op × AV)) : rdl1 false x r = x :: r := rfl
theorem readsOk_nil (fr : Fr) (h : Heap) (M : Made) : readsOk P G fr h M [] = true := rfl
noncomputable def rok1 (o : Option AV) (v : AV) (r : Bool) : Bool := match o with
  | some u => avEq u v && r
  | none => false
theorem readsOk_cons (fr : Fr) (h : Heap) (M : Made) (b : Nat) (op : Op) (v : AV) (rest : List (Nat × Op × AV)) : readsOk P G fr h M ((b, op, v) :: rest) = rok1 (readOp P G fr (addMade b h M) op) v (readsOk P G fr h M rest) := by
  simp only [readsOk, rok1]
  cases readOp P G fr (addMade b h M) op with
  | none => rfl
  | some u => simp only; cases avEq u v <;> rfl
theorem rok1_s (u v : AV) (r : Bool) : rok1 (some u) v r = (avEq u v && r) := rfl
theorem asideOk_nil (h h' : Heap) : asideOk h h' [] = true := rfl
noncomputable def asd1 (a b : Option AB) (r : Bool) : Bool := match a, b with
  | none, none => r
  | some _, some _ => r
  | _, _ => false
theorem asideOk_cons (h h' : Heap) (j k : Nat) (blk : AB) (r : Made) : asideOk h h' ((j, k, blk) :: r) = asd1 (hget h k) (hget h' k) (asideOk h h' r) := by
  simp only [asideOk, asd1]
  cases hget h k <;> cases hget h' k <;> rfl
theorem asd1_n (r : Bool) : asd1 none none r = r := rfl
theorem asd1_s (a b : AB) (r : Bool) : asd1 (some a) (some b) r = r := rfl
/-! ### edges -/
def ksE : List CK := [.i .i64, .i .i64]
def edgeOf : List AV → Int × Int
  | [.int _ a, .int _ b] => (a, b)
  | _ => (0, 0)
def edgesL (L : List (List AV)) : List (Int × Int) := L.map edgeOf
theorem cks_E {l : List AV} (h : cksOk ksE l) : ∃ a b, l = [.int .i64 a, .int .i64 b] := by
  obtain ⟨a, r, rfl, ha, b, r2, rfl, hb, hr⟩ := h
  simp only [cksOk] at hr
  subst hr
  cases a <;> simp only [ckOk] at ha <;> try exact ha.elim
  cases b <;> simp only [ckOk] at hb <;> try exact hb.elim
  obtain ⟨rfl, _⟩ := ha
  obtain ⟨rfl, _⟩ := hb
  exact ⟨_, _, rfl⟩
theorem edge_at {A B : Nat} {h : Heap} {a : AV} {L : List (List AV)} (hl : LstI A B h ksE a L) {i : Nat} (hi : i < L.length) : ∃ b o eo cap x y, a = .slice b o eo L.length cap ∧ ky A 0 ≤ b ∧ b < ky B 0 ∧ (edgesL L)[i]? = some (x, y) ∧
    rdAB (hget h b) (o + i * 2) 2 = some [.int .i64 x, .int .i64 y] ∧ rdAB (hget h b) (o + i * 2) 1 = some [.int .i64 x] ∧ rdAB (hget h b) (o + i * 2 + 1) 1 = some [.int .i64 y] := by
  obtain ⟨b, o, eo, cap, e, h1, h2, h0, hp⟩ := hl.at hi
  obtain ⟨x, y, el⟩ := cks_E (hl.1.ok hi)
  have g1 := hp 0 1 (by decide)
  have g2 := hp 1 1 (by decide)
  rw [el] at h0 g1 g2
  refine ⟨b, o, eo, cap, x, y, e, h1, h2, ?_, h0, g1, g2⟩
  rw [edgesL, List.getElem?_map, List.getElem?_eq_getElem hi, el]
  rfl
theorem edgesL_len (L : List (List AV)) : (edgesL L).length = L.length := by simp [edgesL]
/-! ### lists of lists between two frames -/
def Lst2I (A B : Nat) (h : Heap) (ks : List CK) (a : AV) (LL : List (List (List AV))) : Prop :=
  ∃ X : List (List AV), LstI A B h [.l] a X ∧ X.length = LL.length ∧ ∀ (i : Nat) (l : List (List AV)), LL[i]? = some l → ∃ x, X[i]? = some [x] ∧ LstI A B h ks x l
section
variable {A B : Nat} {h h1 : Heap} {ks : List CK} {a : AV} {LL : List (List (List AV))}
theorem Lst2I.move (hl : Lst2I A B h ks a LL) (he : EqI A B h h1) : Lst2I A B h1 ks a LL := by
  obtain ⟨X, k1, k2, k3⟩ := hl
  exact ⟨X, k1.move he, k2, fun i l hi => let ⟨x, e, hx⟩ := k3 i l hi; ⟨x, e, hx.move he⟩⟩
theorem rLen1_I2 {t e : TypeId} {h2 : Heap} (hu : P.underlying t = some (.slice e)) (hl : Lst2I A B h ks a LL) : rLen1 P h2 t (some a) = some (.int .i64 (LL.length : Int)) := by
  obtain ⟨X, h1, h2, _⟩ := hl
  rw [rLen1_L hu h1.1, h2]
theorem Lst2I.at (hl : Lst2I A B h ks a LL) {i : Nat} {l : List (List AV)} (hi : LL[i]? = some l) : ∃ b o eo cap x, a = .slice b o eo LL.length cap ∧ ky A 0 ≤ b ∧ b < ky B 0 ∧ rdAB (hget h b) (o + i * 1) 1 = some [x] ∧ LstI A B h ks x l := by
  obtain ⟨X, k1, k2, k3⟩ := hl
  obtain ⟨x, e, hx⟩ := k3 i l hi
  have hil := (List.getElem?_eq_some_iff.1 e).1
  obtain ⟨b, o, eo, cap, e1, g1, g2, h0, _⟩ := k1.at hil
  rw [List.getElem?_eq_getElem hil] at e
  rw [Option.some.inj e] at h0
  exact ⟨b, o, eo, cap, x, by rw [e1, k2], g1, g2, h0, hx⟩
end
end Go.Ai

