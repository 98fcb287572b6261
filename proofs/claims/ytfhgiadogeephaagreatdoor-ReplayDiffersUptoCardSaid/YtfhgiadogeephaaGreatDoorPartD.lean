/- A part of the proof of the law ReplayDiffers. CONDITIONS: those that each theorem names. -/
import Derived.Test.YtfhgiadogeephaaGreatDoorEngineA
import Derived.Test.YtfhgiadogeephaaGreatDoorEngineB
import Derived.Test.YtfhgiadogeephaaGreatDoorEngineC
import Derived.Test.YtfhgiadogeephaaGreatDoorEngineD
import Derived.Test.YtfhgiadogeephaaGreatDoorPartA
import Derived.Test.YtfhgiadogeephaaGreatDoorSTTypes
import Derived.Test.YtfhgiadogeephaaGreatDoorPartB
import Derived.Test.YtfhgiadogeephaaGreatDoorSTLay
import Derived.Test.YtfhgiadogeephaaGreatDoorPartC
namespace Go.Proofs.YtfhgiadogeephaaGreatDoor
open Go Go.Ai
set_option maxRecDepth 100000

theorem values40_in (h : Heap) (F : Nat) (a a2 : AV) (L M : List (List AV)) (hL : LstP h ksV a L) (hM : LstP h ksV a2 M) (hLM : L.length = M.length) : Snd Tryz.prog [] 108 [a, a2] ⟨h, F⟩ [.val (.bool (dec (L = M))) ⟨h, F⟩] := by
  have mxl : maxLen = 9223372036854775807 := by decide
  refine snd_val (by simp [Kin]) fun hw => ?_
  have hs := hL.len
  have hne : ((L.length : Int) != (M.length : Int)) = false := by simp [hLM]
  refine sndQ_body (K := K0) kok0 mixed noNum (m := L.length + 1) Tryz.func108 ?_
  generalize hQ : retQ _ _ _ _ _ _ = Q0
  refine body_go (c := Tryz.f108.body.getD .skip) (n := 26) rfl rfl (by simp only [↓reduceIte, T.setList, T.set_e, T.set_n, Nat.reduceDiv, Nat.reduceMod, Nat.reduceEqDiff, Nat.zero_add] <;> rfl) ?_
  simp only [Tryz.f108, Option.getD_some]
  repeat' (first | with_reducible (first | refine r_seq ?_ | refine r_next ?_ | refine r_block ?_ | refine r_seq_exit ?_ | refine r_seq_ret ?_ | refine r_blk_n ?_ | refine r_blk_ret ?_ | refine r_blk_hit ?_ | refine r_blk_miss rfl ?_ | refine r_skip ?_ | refine r_exit ?_ | refine r_ret ?_ | refine r_rq_exit ?_ | refine r_rq_ret ?_) | ((with_reducible apply r_regA); (focus (exact sd2)); (focus (exact sd1))) | ((with_reducible refine r_reg (List.toList_toArray) ?_ ?_); focus (exact sd1)) | ((with_reducible apply r_end); focus (exact sd4)) | ((with_reducible (first | apply r_any | apply r_cond)); focus (simp only [↓reduceIte, clsOf, clsCall, Fr.ev, ofV, ofA, ofS, put_mk, pureOp, readOp, pBin, binA, intOp_neq, List.getElem?_cons_zero, Nat.reduceLT, Nat.reduceEqDiff, Nat.reduceSub, binA, stepOp, stV_mk, T.get_n, T.set_n, T.set_e, Nat.reduceDiv, Nat.reduceMod, stepAny, wantedA_none, rCall, rLen, rLen1_L Tryz.underlying26 hL, rLen1_L Tryz.underlying26 hM, hne, intOp_neq] <;> rfl)) | (with_reducible rw [ifQ_t]) | (with_reducible rw [ifQ_f]) | (with_reducible refine ifQ_intro ?_ ?_ <;> intro hb))
  · refine r_loop (I := fun nn fr s1 => ∃ lc tt h1 i, fr = ⟨F, lc, 26, tt, [], .no⟩ ∧ s1 = ⟨h1, F + 1⟩ ∧ i ≤ L.length ∧ nn = L.length - i ∧ 2 ≤ lc ∧ lc + nn * 1000 ≤ 100000000000000000000000000 ∧ SameH h h1 ∧ tt.get 0 = some (a) ∧ tt.get 1 = some (a2) ∧ tt.get 12 = some (.int .i64 L.length) ∧ tt.get 13 = some (.int .i64 i) ∧ (∀ j (hj : j < i) (h1 : j < L.length) (h2 : j < M.length), L[j] = M[j])) (n := L.length) ?_ ?_ ?_
    · omega
    · exact ⟨_, _, _, 0, rfl, rfl, Nat.zero_le _, (Nat.sub_zero _).symm, by first | omega | exact Nat.le_of_ble_eq_true rfl, by omega, (by repeat (first | exact SameH.refl _ | refine SameH.hset hw ?_ (ky_le _ _))), (by first | rfl | (simp only [Nat.reduceLT, Tget_set, T.get_n, T.get_e, Nat.reduceEqDiff, Nat.reduceDiv, Nat.reduceMod, Nat.reduceSub, ↓reduceIte, if_true, if_false, hget_same, hget_hset_ite, ky_inj, Nat.reduceAdd, Nat.zero_add, rLen1_L Tryz.underlying26 hL, rLen1_L Tryz.underlying26 hM, hne, intOp_neq] <;> rfl)), (by first | rfl | (simp only [Nat.reduceLT, Tget_set, T.get_n, T.get_e, Nat.reduceEqDiff, Nat.reduceDiv, Nat.reduceMod, Nat.reduceSub, ↓reduceIte, if_true, if_false, hget_same, hget_hset_ite, ky_inj, Nat.reduceAdd, Nat.zero_add, rLen1_L Tryz.underlying26 hL, rLen1_L Tryz.underlying26 hM, hne, intOp_neq] <;> rfl)), (by first | rfl | (simp only [Nat.reduceLT, Tget_set, T.get_n, T.get_e, Nat.reduceEqDiff, Nat.reduceDiv, Nat.reduceMod, Nat.reduceSub, ↓reduceIte, if_true, if_false, hget_same, hget_hset_ite, ky_inj, Nat.reduceAdd, Nat.zero_add, rLen1_L Tryz.underlying26 hL, rLen1_L Tryz.underlying26 hM, hne, intOp_neq] <;> rfl)), (by first | rfl | (simp only [Nat.reduceLT, Tget_set, T.get_n, T.get_e, Nat.reduceEqDiff, Nat.reduceDiv, Nat.reduceMod, Nat.reduceSub, ↓reduceIte, if_true, if_false, hget_same, hget_hset_ite, ky_inj, Nat.reduceAdd, Nat.zero_add, rLen1_L Tryz.underlying26 hL, rLen1_L Tryz.underlying26 hM, hne, intOp_neq] <;> rfl)), fun j hj => absurd hj (Nat.not_lt_zero _)⟩
    rintro nn fr s1 ⟨lc, tt, h1, i, rfl, rfl, hi, rfl, hl0, hlc, hS, ht0, ht1, ht12, ht13, hI⟩
    by_cases hil : i < L.length
    · have hil2 : i < M.length := by omega
      obtain ⟨b, o, eo, cap, k0, n0, t0, rfl, hb0, hLi, r0⟩ := value_at hw hL hS hil
      obtain ⟨b2, o2, eo2, cap2, k1, n1, t1, rfl, hb1, hMi, r2⟩ := value_at hw hM hS hil2
      repeat' (first | with_reducible (first | refine r_seq ?_ | refine r_next ?_ | refine r_block ?_ | refine r_seq_exit ?_ | refine r_seq_ret ?_ | refine r_blk_n ?_ | refine r_blk_ret ?_ | refine r_blk_hit ?_ | refine r_blk_miss rfl ?_ | refine r_skip ?_ | refine r_exit ?_ | refine r_ret ?_ | refine r_rq_exit ?_ | refine r_rq_ret ?_) | ((with_reducible apply r_regA); (focus (exact sd2)); (focus (exact sd1))) | ((with_reducible refine r_reg (List.toList_toArray) ?_ ?_); focus (exact sd1)) | ((with_reducible apply r_end); focus (exact sd4)) | ((with_reducible (first | apply r_any | apply r_cond)); focus (simp only [↓reduceIte, clsOf, Fr.ev, ofV, ofA, ofS, put_mk, pureOp, pBin, binA, intOp_lss, Nat.reduceLT, Nat.reduceEqDiff, binA, stepOp, stV_mk, stepAny, wantedA_none, Tget_set, ht12, ht13, lt_t hil, intOp_add (inR_succ hil hs)] <;> rfl)) | (with_reducible rw [ifQ_t]) | (with_reducible rw [ifQ_f]) | ((with_reducible apply (r_drawW (js := [0, 1, 2, 3, 4, 5, 6, 7, 8]))); (focus kernel_rfl); (focus kernel_rfl); (focus (exact sd1))) | ((with_reducible apply d_end); (focus (simp only [List.length_cons, List.length_nil, Nat.add_assoc, Nat.reduceAdd, Nat.zero_add] <;> rfl))) | ((with_reducible apply d_any); (focus rfl); (iterate 2 (focus (simp only [↓reduceIte, Bool.not_false, clsOf, Fr.ev, put_mk, pureOp, readOp, rLd, someAgg_s, pBin, binA, Nat.reduceLT, Nat.reduceEqDiff, loadA_w, loadW_a, binA, eqGuardOk, Bool.and_true, stepOp, stV_mk, sz217, ag217, stepAny, wantedA_none, readSelf, av_str, av_int, av_agg, avs_nil, avs_cons, pIA_s Tryz.underlying26 sz217 hil, pIA_s Tryz.underlying26 sz217 hil2, r0, r2, eqV100, eg217, Tget_set, ht0, ht1] <;> rfl))); (focus (first | exact SameH.refl _ | (simp only [sameT, sameS hw]; done)))) | (with_reducible refine ifQ_intro ?_ ?_ <;> intro hb))
      · have hx : [AV.int .i64 k0, .int .i64 n0, .str t0] ≠ [.int .i64 k1, .int .i64 n1, .str t1] := fun hx => by rw [dec_t hx] at hb; cases hb
        subst hQ
        refine ret_back (by simp only [Tryz.results108, resultOf, resultsA, resultA, List.toList_toArray, Fr.ev, Tget_set, ↓reduceIte] <;> rfl) ⟨_, out_f ?_, ?_⟩
        · exact ne_idx hil hil2 (by rw [hLi, hMi]; exact hx)
        repeat (first | exact Same.base _ _ _ | exact hS | refine Same.hset hw ?_ (ky_le _ _))
      · have hx : [AV.int .i64 k0, .int .i64 n0, .str t0] = [.int .i64 k1, .int .i64 n1, .str t1] := dec_iff.1 (by simpa using hb)
        have hp : L[i] = M[i] := by rw [hLi, hMi]; exact hx
        refine r_rq_n (k := L.length - (i + 1)) (by omega) ⟨_, _, _, i + 1, rfl, rfl, by omega, rfl, by omega, by omega, hS, (by simp only [Tget_set, Nat.reduceEqDiff, ↓reduceIte, Tget_set, ht0] <;> rfl), (by simp only [Tget_set, Nat.reduceEqDiff, ↓reduceIte, Tget_set, ht1] <;> rfl), (by simp only [Tget_set, Nat.reduceEqDiff, ↓reduceIte, Tget_set, ht12] <;> rfl), (by simp only [Tget_set, ↓reduceIte, Tget_set] <;> rfl), fun j hj h1 h2 => by rcases Nat.lt_or_ge j i with hji | hji; exact hI j hji h1 h2; obtain rfl : j = i := (by omega); exact hp⟩
    · have hend : i = L.length := by omega
      repeat' (first | with_reducible (first | refine r_seq ?_ | refine r_next ?_ | refine r_block ?_ | refine r_seq_exit ?_ | refine r_seq_ret ?_ | refine r_blk_n ?_ | refine r_blk_ret ?_ | refine r_blk_hit ?_ | refine r_blk_miss rfl ?_ | refine r_skip ?_ | refine r_exit ?_ | refine r_ret ?_ | refine r_rq_exit ?_ | refine r_rq_ret ?_) | ((with_reducible apply r_regA); (focus (exact sd2)); (focus (exact sd1))) | ((with_reducible refine r_reg (List.toList_toArray) ?_ ?_); focus (exact sd1)) | ((with_reducible apply r_end); focus (exact sd4)) | ((with_reducible (first | apply r_any | apply r_cond)); focus (simp only [↓reduceIte, clsOf, Fr.ev, ofV, ofA, ofS, put_mk, pureOp, pBin, binA, intOp_lss, Nat.reduceLT, binA, stepOp, stV_mk, stepAny, wantedA_none, Tget_set, ht12, ht13, lt_f hil] <;> rfl)) | (with_reducible rw [ifQ_t]) | (with_reducible rw [ifQ_f]) | (with_reducible refine ifQ_intro ?_ ?_ <;> intro hb))
      · subst hQ
        refine ret_back (by simp only [Tryz.results108, resultOf, resultsA, resultA, List.toList_toArray, Fr.ev, Tget_set, ↓reduceIte] <;> rfl) ⟨_, out_t ?_, ?_⟩
        · exact eq_idx hLM fun j h1 h2 => hI j (by omega) h1 h2
        repeat (first | exact Same.base _ _ _ | exact hS | refine Same.hset hw ?_ (ky_le _ _))
theorem values40 (h : Heap) (F : Nat) (a a2 : AV) (L M : List (List AV)) (hL : LstP h ksV a L) (hM : LstP h ksV a2 M) : Snd Tryz.prog [] 108 [a, a2] ⟨h, F⟩ [.val (.bool (dec (L = M))) ⟨h, F⟩] := by
  by_cases hLM : L.length = M.length
  · exact values40_in h F a a2 L M hL hM hLM
  refine snd_val (by simp [Kin]) fun hw => ?_
  have hne : ((L.length : Int) != (M.length : Int)) = true := by simp; omega
  refine sndQ_body (K := K0) kok0 mixed noNum (m := 0) Tryz.func108 ?_
  generalize hQ : retQ _ _ _ _ _ _ = Q0
  refine body_go (c := Tryz.f108.body.getD .skip) (n := 26) rfl rfl (by simp only [↓reduceIte, T.setList, T.set_e, T.set_n, Nat.reduceDiv, Nat.reduceMod, Nat.reduceEqDiff, Nat.zero_add] <;> rfl) ?_
  simp only [Tryz.f108, Option.getD_some]
  repeat' (first | with_reducible (first | refine r_seq ?_ | refine r_next ?_ | refine r_block ?_ | refine r_seq_exit ?_ | refine r_seq_ret ?_ | refine r_blk_n ?_ | refine r_blk_ret ?_ | refine r_blk_hit ?_ | refine r_blk_miss rfl ?_ | refine r_skip ?_ | refine r_exit ?_ | refine r_ret ?_ | refine r_rq_exit ?_ | refine r_rq_ret ?_) | ((with_reducible apply r_regA); (focus (exact sd2)); (focus (exact sd1))) | ((with_reducible refine r_reg (List.toList_toArray) ?_ ?_); focus (exact sd1)) | ((with_reducible apply r_end); focus (exact sd4)) | ((with_reducible (first | apply r_any | apply r_cond)); focus (simp only [↓reduceIte, clsOf, clsCall, Fr.ev, ofV, ofA, ofS, put_mk, pureOp, readOp, pBin, binA, intOp_neq, List.getElem?_cons_zero, Nat.reduceLT, Nat.reduceEqDiff, Nat.reduceSub, binA, stepOp, stV_mk, T.get_n, T.set_n, T.set_e, Nat.reduceDiv, Nat.reduceMod, stepAny, wantedA_none, rCall, rLen, rLen1_L Tryz.underlying26 hL, rLen1_L Tryz.underlying26 hM, hne, intOp_neq] <;> rfl)) | (with_reducible rw [ifQ_t]) | (with_reducible rw [ifQ_f]) | (with_reducible refine ifQ_intro ?_ ?_ <;> intro hb))
  subst hQ
  refine ret_back (by simp only [Tryz.results108, resultOf, resultsA, resultA, List.toList_toArray, Fr.ev, T.get_n, Nat.reduceDiv, Nat.reduceMod, Nat.reduceSub, Nat.reduceEqDiff, ↓reduceIte] <;> rfl) ⟨_, out_f ?_, ?_⟩
  · exact ne_len hLM
  repeat (first | exact Same.base _ _ _ | exact Same.refl _ | refine Same.hset hw ?_ (ky_le _ _))

theorem values71_in (h : Heap) (F : Nat) (a a2 : AV) (L M : List (List AV)) (hL : LstP h ksV a L) (hM : LstP h ksV a2 M) (hLM : L.length = M.length) : Snd Tryz.prog [] 58 [a, a2] ⟨h, F⟩ [.val (.bool (dec (L = M))) ⟨h, F⟩] := by
  have mxl : maxLen = 9223372036854775807 := by decide
  refine snd_val (by simp [Kin]) fun hw => ?_
  have hs := hL.len
  have hne : ((L.length : Int) != (M.length : Int)) = false := by simp [hLM]
  refine sndQ_body (K := K0) kok0 mixed noNum (m := L.length + 1) Tryz.func58 ?_
  generalize hQ : retQ _ _ _ _ _ _ = Q0
  refine body_go (c := Tryz.f58.body.getD .skip) (n := 26) rfl rfl (by simp only [↓reduceIte, T.setList, T.set_e, T.set_n, Nat.reduceDiv, Nat.reduceMod, Nat.reduceEqDiff, Nat.zero_add] <;> rfl) ?_
  simp only [Tryz.f58, Option.getD_some]
  repeat' (first | with_reducible (first | refine r_seq ?_ | refine r_next ?_ | refine r_block ?_ | refine r_seq_exit ?_ | refine r_seq_ret ?_ | refine r_blk_n ?_ | refine r_blk_ret ?_ | refine r_blk_hit ?_ | refine r_blk_miss rfl ?_ | refine r_skip ?_ | refine r_exit ?_ | refine r_ret ?_ | refine r_rq_exit ?_ | refine r_rq_ret ?_) | ((with_reducible apply r_regA); (focus (exact sd2)); (focus (exact sd1))) | ((with_reducible refine r_reg (List.toList_toArray) ?_ ?_); focus (exact sd1)) | ((with_reducible apply r_end); focus (exact sd4)) | ((with_reducible (first | apply r_any | apply r_cond)); focus (simp only [↓reduceIte, clsOf, clsCall, Fr.ev, ofV, ofA, ofS, put_mk, pureOp, readOp, pBin, binA, intOp_neq, List.getElem?_cons_zero, Nat.reduceLT, Nat.reduceEqDiff, Nat.reduceSub, binA, stepOp, stV_mk, T.get_n, T.set_n, T.set_e, Nat.reduceDiv, Nat.reduceMod, stepAny, wantedA_none, rCall, rLen, rLen1_L Tryz.underlying26 hL, rLen1_L Tryz.underlying26 hM, hne, intOp_neq] <;> rfl)) | (with_reducible rw [ifQ_t]) | (with_reducible rw [ifQ_f]) | (with_reducible refine ifQ_intro ?_ ?_ <;> intro hb))
  · refine r_loop (I := fun nn fr s1 => ∃ lc tt h1 i, fr = ⟨F, lc, 26, tt, [], .no⟩ ∧ s1 = ⟨h1, F + 1⟩ ∧ i ≤ L.length ∧ nn = L.length - i ∧ 2 ≤ lc ∧ lc + nn * 1000 ≤ 100000000000000000000000000 ∧ SameH h h1 ∧ tt.get 0 = some (a) ∧ tt.get 1 = some (a2) ∧ tt.get 5 = some (.int .i64 i) ∧ (∀ j (hj : j < i) (h1 : j < L.length) (h2 : j < M.length), L[j] = M[j])) (n := L.length) ?_ ?_ ?_
    · omega
    · exact ⟨_, _, _, 0, rfl, rfl, Nat.zero_le _, (Nat.sub_zero _).symm, by first | omega | exact Nat.le_of_ble_eq_true rfl, by omega, (by repeat (first | exact SameH.refl _ | refine SameH.hset hw ?_ (ky_le _ _))), (by first | rfl | (simp only [Nat.reduceLT, Tget_set, T.get_n, T.get_e, Nat.reduceEqDiff, Nat.reduceDiv, Nat.reduceMod, Nat.reduceSub, ↓reduceIte, if_true, if_false, hget_same, hget_hset_ite, ky_inj, Nat.reduceAdd, Nat.zero_add, rLen1_L Tryz.underlying26 hL, rLen1_L Tryz.underlying26 hM, hne, intOp_neq] <;> rfl)), (by first | rfl | (simp only [Nat.reduceLT, Tget_set, T.get_n, T.get_e, Nat.reduceEqDiff, Nat.reduceDiv, Nat.reduceMod, Nat.reduceSub, ↓reduceIte, if_true, if_false, hget_same, hget_hset_ite, ky_inj, Nat.reduceAdd, Nat.zero_add, rLen1_L Tryz.underlying26 hL, rLen1_L Tryz.underlying26 hM, hne, intOp_neq] <;> rfl)), (by first | rfl | (simp only [Nat.reduceLT, Tget_set, T.get_n, T.get_e, Nat.reduceEqDiff, Nat.reduceDiv, Nat.reduceMod, Nat.reduceSub, ↓reduceIte, if_true, if_false, hget_same, hget_hset_ite, ky_inj, Nat.reduceAdd, Nat.zero_add, rLen1_L Tryz.underlying26 hL, rLen1_L Tryz.underlying26 hM, hne, intOp_neq] <;> rfl)), fun j hj => absurd hj (Nat.not_lt_zero _)⟩
    rintro nn fr s1 ⟨lc, tt, h1, i, rfl, rfl, hi, rfl, hl0, hlc, hS, ht0, ht1, ht5, hI⟩
    by_cases hil : i < L.length
    · have hil2 : i < M.length := by omega
      obtain ⟨b, o, eo, cap, k0, n0, t0, rfl, hb0, hLi, r0⟩ := value_at hw hL hS hil
      obtain ⟨b2, o2, eo2, cap2, k1, n1, t1, rfl, hb1, hMi, r2⟩ := value_at hw hM hS hil2
      repeat' (first | with_reducible (first | refine r_seq ?_ | refine r_next ?_ | refine r_block ?_ | refine r_seq_exit ?_ | refine r_seq_ret ?_ | refine r_blk_n ?_ | refine r_blk_ret ?_ | refine r_blk_hit ?_ | refine r_blk_miss rfl ?_ | refine r_skip ?_ | refine r_exit ?_ | refine r_ret ?_ | refine r_rq_exit ?_ | refine r_rq_ret ?_) | ((with_reducible apply r_regA); (focus (exact sd2)); (focus (exact sd1))) | ((with_reducible refine r_reg (List.toList_toArray) ?_ ?_); focus (exact sd1)) | ((with_reducible apply r_end); focus (exact sd4)) | ((with_reducible (first | apply r_any | apply r_cond)); focus (simp only [↓reduceIte, clsOf, clsCall, Fr.ev, ofV, ofA, ofS, put_mk, pureOp, readOp, pBin, binA, intOp_lss, List.getElem?_cons_zero, Nat.reduceLT, Nat.reduceEqDiff, binA, stepOp, stV_mk, Tryz.underlying26, stepAny, wantedA_none, rCall, rLen, rLen1_sl, lenA, Tget_set, ht0, ht5, lt_t hil, intOp_add (inR_succ hil hs)] <;> rfl)) | (with_reducible rw [ifQ_t]) | (with_reducible rw [ifQ_f]) | ((with_reducible apply (r_drawW (js := [0, 1, 2, 3, 4, 5, 6, 7, 8]))); (focus kernel_rfl); (focus kernel_rfl); (focus (exact sd1))) | ((with_reducible apply d_end); (focus (simp only [List.length_cons, List.length_nil, Nat.add_assoc, Nat.reduceAdd, Nat.zero_add] <;> rfl))) | ((with_reducible apply d_any); (focus rfl); (iterate 2 (focus (simp only [↓reduceIte, Bool.not_false, clsOf, Fr.ev, put_mk, pureOp, readOp, rLd, someAgg_s, pBin, binA, Nat.reduceLT, Nat.reduceEqDiff, loadA_w, loadW_a, binA, eqGuardOk, Bool.and_true, stepOp, stV_mk, sz217, ag217, stepAny, wantedA_none, readSelf, av_str, av_int, av_agg, avs_nil, avs_cons, pIA_s Tryz.underlying26 sz217 hil, pIA_s Tryz.underlying26 sz217 hil2, r0, r2, eqV100, eg217, Tget_set, ht0, ht1, ht5] <;> rfl))); (focus (first | exact SameH.refl _ | (simp only [sameT, sameS hw]; done)))) | (with_reducible refine ifQ_intro ?_ ?_ <;> intro hb))
      · have hx : [AV.int .i64 k0, .int .i64 n0, .str t0] ≠ [.int .i64 k1, .int .i64 n1, .str t1] := fun hx => by rw [dec_t hx] at hb; cases hb
        subst hQ
        refine ret_back (by simp only [Tryz.results58, resultOf, resultsA, resultA, List.toList_toArray, Fr.ev, Tget_set, ↓reduceIte] <;> rfl) ⟨_, out_f ?_, ?_⟩
        · exact ne_idx hil hil2 (by rw [hLi, hMi]; exact hx)
        repeat (first | exact Same.base _ _ _ | exact hS | refine Same.hset hw ?_ (ky_le _ _))
      · have hx : [AV.int .i64 k0, .int .i64 n0, .str t0] = [.int .i64 k1, .int .i64 n1, .str t1] := dec_iff.1 (by simpa using hb)
        have hp : L[i] = M[i] := by rw [hLi, hMi]; exact hx
        refine r_rq_n (k := L.length - (i + 1)) (by omega) ⟨_, _, _, i + 1, rfl, rfl, by omega, rfl, by omega, by omega, hS, (by simp only [Tget_set, Nat.reduceEqDiff, ↓reduceIte, Tget_set, ht0] <;> rfl), (by simp only [Tget_set, Nat.reduceEqDiff, ↓reduceIte, Tget_set, ht1] <;> rfl), (by simp only [Tget_set, ↓reduceIte, Tget_set] <;> rfl), fun j hj h1 h2 => by rcases Nat.lt_or_ge j i with hji | hji; exact hI j hji h1 h2; obtain rfl : j = i := (by omega); exact hp⟩
    · have hend : i = L.length := by omega
      repeat' (first | with_reducible (first | refine r_seq ?_ | refine r_next ?_ | refine r_block ?_ | refine r_seq_exit ?_ | refine r_seq_ret ?_ | refine r_blk_n ?_ | refine r_blk_ret ?_ | refine r_blk_hit ?_ | refine r_blk_miss rfl ?_ | refine r_skip ?_ | refine r_exit ?_ | refine r_ret ?_ | refine r_rq_exit ?_ | refine r_rq_ret ?_) | ((with_reducible apply r_regA); (focus (exact sd2)); (focus (exact sd1))) | ((with_reducible refine r_reg (List.toList_toArray) ?_ ?_); focus (exact sd1)) | ((with_reducible apply r_end); focus (exact sd4)) | ((with_reducible (first | apply r_any | apply r_cond)); focus (simp only [↓reduceIte, clsOf, clsCall, Fr.ev, ofV, ofA, ofS, put_mk, pureOp, readOp, pBin, binA, intOp_lss, List.getElem?_cons_zero, Nat.reduceLT, Nat.reduceEqDiff, binA, stepOp, stV_mk, stepAny, wantedA_none, rCall, rLen, Tget_set, ht0, ht5, lt_f hil, rLen1_L Tryz.underlying26 hL] <;> rfl)) | (with_reducible rw [ifQ_t]) | (with_reducible rw [ifQ_f]) | (with_reducible refine ifQ_intro ?_ ?_ <;> intro hb))
      · subst hQ
        refine ret_back (by simp only [Tryz.results58, resultOf, resultsA, resultA, List.toList_toArray, Fr.ev, Tget_set, ↓reduceIte] <;> rfl) ⟨_, out_t ?_, ?_⟩
        · exact eq_idx hLM fun j h1 h2 => hI j (by omega) h1 h2
        repeat (first | exact Same.base _ _ _ | exact hS | refine Same.hset hw ?_ (ky_le _ _))
theorem values71 (h : Heap) (F : Nat) (a a2 : AV) (L M : List (List AV)) (hL : LstP h ksV a L) (hM : LstP h ksV a2 M) : Snd Tryz.prog [] 58 [a, a2] ⟨h, F⟩ [.val (.bool (dec (L = M))) ⟨h, F⟩] := by
  by_cases hLM : L.length = M.length
  · exact values71_in h F a a2 L M hL hM hLM
  refine snd_val (by simp [Kin]) fun hw => ?_
  have hne : ((L.length : Int) != (M.length : Int)) = true := by simp; omega
  refine sndQ_body (K := K0) kok0 mixed noNum (m := 0) Tryz.func58 ?_
  generalize hQ : retQ _ _ _ _ _ _ = Q0
  refine body_go (c := Tryz.f58.body.getD .skip) (n := 26) rfl rfl (by simp only [↓reduceIte, T.setList, T.set_e, T.set_n, Nat.reduceDiv, Nat.reduceMod, Nat.reduceEqDiff, Nat.zero_add] <;> rfl) ?_
  simp only [Tryz.f58, Option.getD_some]
  repeat' (first | with_reducible (first | refine r_seq ?_ | refine r_next ?_ | refine r_block ?_ | refine r_seq_exit ?_ | refine r_seq_ret ?_ | refine r_blk_n ?_ | refine r_blk_ret ?_ | refine r_blk_hit ?_ | refine r_blk_miss rfl ?_ | refine r_skip ?_ | refine r_exit ?_ | refine r_ret ?_ | refine r_rq_exit ?_ | refine r_rq_ret ?_) | ((with_reducible apply r_regA); (focus (exact sd2)); (focus (exact sd1))) | ((with_reducible refine r_reg (List.toList_toArray) ?_ ?_); focus (exact sd1)) | ((with_reducible apply r_end); focus (exact sd4)) | ((with_reducible (first | apply r_any | apply r_cond)); focus (simp only [↓reduceIte, clsOf, clsCall, Fr.ev, ofV, ofA, ofS, put_mk, pureOp, readOp, pBin, binA, intOp_neq, List.getElem?_cons_zero, Nat.reduceLT, Nat.reduceEqDiff, Nat.reduceSub, binA, stepOp, stV_mk, T.get_n, T.set_n, T.set_e, Nat.reduceDiv, Nat.reduceMod, stepAny, wantedA_none, rCall, rLen, rLen1_L Tryz.underlying26 hL, rLen1_L Tryz.underlying26 hM, hne, intOp_neq] <;> rfl)) | (with_reducible rw [ifQ_t]) | (with_reducible rw [ifQ_f]) | (with_reducible refine ifQ_intro ?_ ?_ <;> intro hb))
  subst hQ
  refine ret_back (by simp only [Tryz.results58, resultOf, resultsA, resultA, List.toList_toArray, Fr.ev, T.get_n, Nat.reduceDiv, Nat.reduceMod, Nat.reduceSub, Nat.reduceEqDiff, ↓reduceIte] <;> rfl) ⟨_, out_f ?_, ?_⟩
  · exact ne_len hLM
  repeat (first | exact Same.base _ _ _ | exact Same.refl _ | refine Same.hset hw ?_ (ky_le _ _))

end Go.Proofs.YtfhgiadogeephaaGreatDoor

namespace Go.Proofs.YtfhgiadogeephaaGreatDoor
open Go Go.Ai
set_option maxRecDepth 100000

section
variable {S : FuncId → List AV → St → Out → Prop}
theorem isCell_L {h : Heap} {ks : List CK} {a : AV} {L : List (List AV)} (hl : LstP h ks a L) : isCell a = true := by
  rcases hl.2.2 with ⟨rfl | rfl, _⟩ | ⟨b, o, eo, cap, rfl, _⟩ <;> rfl
theorem k_vals40 {h h1 : Heap} {F : Nat} {a b : AV} {L M : List (List AV)} (hL : LstP h ksV a L) (hM : LstP h ksV b M) (hs : SameH h h1) : CallF.fn (KT S) 108 [a, b] ⟨h1, F⟩ = some [.val (.bool (dec (L = M))) ⟨h1, F⟩] :=
  kt_fn ((rfl : _ = spEq [a, b] ⟨h1, F⟩).trans (by simp only [spEq, lstOf_same hL hs, lstOf_same hM hs])) (snd_glob (values40 h1 F a b L M (hL.same hs) (hM.same hs)))
theorem k_vals71 {h h1 : Heap} {F : Nat} {a b : AV} {L M : List (List AV)} (hL : LstP h ksV a L) (hM : LstP h ksV b M) (hs : SameH h h1) : CallF.fn (KT S) 58 [a, b] ⟨h1, F⟩ = some [.val (.bool (dec (L = M))) ⟨h1, F⟩] :=
  kt_fn ((rfl : _ = spEq [a, b] ⟨h1, F⟩).trans (by simp only [spEq, lstOf_same hL hs, lstOf_same hM hs])) (snd_glob (values71 h1 F a b L M (hL.same hs) (hM.same hs)))
set_option maxHeartbeats 2000000 in
theorem sameA (h : Heap) (F : Nat) (q k c p q2 k2 c2 p2 : Int) (a b : AV) (L M : List (List AV)) (hL : LstP h ksV a L) (hM : LstP h ksV b M) : Snd Tryz.prog GL 107 [.agg [.int .i64 q, .int .i64 k, .int .i64 c, .int .i64 p, a], .agg [.int .i64 q2, .int .i64 k2, .int .i64 c2, .int .i64 p2, b]] ⟨h, F⟩ [.val (.bool (dec (q = q2 ∧ k = k2 ∧ c = c2 ∧ p = p2 ∧ L = M))) ⟨h, F⟩] := by
  refine snd_val (by simp [Kin]) fun hw => ?_
  by_cases hq : q = q2
  · have nq : (q == q2) = true := beq_iff_eq.2 hq
    by_cases hk : k = k2
    · have nk : (k == k2) = true := beq_iff_eq.2 hk
      by_cases hc : c = c2
      · have nc : (c == c2) = true := beq_iff_eq.2 hc
        by_cases hp : p = p2
        · have np : (p == p2) = true := beq_iff_eq.2 hp
          refine sndQ_body (K := (KT S0)) kt_ok mixed noNum (m := 0) Tryz.func107 ?_
          generalize hQ : retQ _ _ _ _ _ _ = Q0
          refine body_go (c := Tryz.f107.body.getD .skip) (n := 38) rfl rfl (by simp only [↓reduceIte, T.setList, T.set_e, T.set_n, Nat.reduceDiv, Nat.reduceMod, Nat.reduceEqDiff, Nat.zero_add] <;> rfl) ?_
          simp only [Tryz.f107, Option.getD_some]
          repeat' (first | with_reducible (first | refine r_seq ?_ | refine r_next ?_ | refine r_block ?_ | refine r_seq_exit ?_ | refine r_seq_ret ?_ | refine r_blk_n ?_ | refine r_blk_ret ?_ | refine r_blk_hit ?_ | refine r_blk_miss rfl ?_ | refine r_skip ?_ | refine r_exit ?_ | refine r_ret ?_ | refine r_rq_exit ?_ | refine r_rq_ret ?_) | ((with_reducible apply r_regA); (focus (exact sd2)); (focus (exact sd1))) | ((with_reducible refine r_reg (List.toList_toArray) ?_ ?_); focus (exact sd1)) | ((with_reducible apply r_end); focus (exact sd4)) | ((with_reducible (first | apply r_move | apply r_assign)); (focus (exact sd3)); (focus (exact sd7))) | ((with_reducible apply r_condT); (focus (exact sd3))) | ((with_reducible (first | apply r_any | apply r_cond)); focus (simp only [↓reduceIte, wantedA_eq, gBool_t, clsOf, clsCall, newBlk, allocOp, Fr.ev, evs, ofV, ofA, ofS, nVar, AV.cells, rowOf_mk, put_mk, upd_mk, keyOf_mk, ky_inj, pureOp, readOp, pFA, pFA1, pFA2, rLd, rdAB_row, oneCell_one, hget_same, hget_hset_ite, pBin, binA, intOp_eql, pPick, List.length_cons, List.length_nil, List.getElem?_cons_zero, List.getElem?_cons_succ, List.drop_zero, List.drop_succ_cons, List.take_succ_cons, List.take_zero, Nat.zero_add, Nat.add_zero, Nat.reduceAdd, Nat.reduceLT, Nat.reduceLeDiff, Nat.reduceEqDiff, Nat.reduceSub, Nat.add_eq, loadA_w, loadW_s, callTo_s, heavyCall, target, List.nil_append, List.append_nil, binA, stepOp, stHeavy, stV_mk, stB_mk, stO_mk, T.get_n, T.set_n, T.set_e, Nat.reduceDiv, Nat.reduceMod, sz2, ag2, sz3, ag3, sz26, ag26, Tryz.underlying28, stepAny, wantedA_none, nq, nk, nc, np, k_vals40 hL hM, sameS hw, sameT] <;> rfl)) | (with_reducible rw [ifQ_t]) | (with_reducible rw [ifQ_f]) | (with_reducible refine ifQ_intro ?_ ?_ <;> intro hb))
          subst hQ
          refine ret_back (by simp only [Tryz.results107, resultOf, resultsA, resultA, List.toList_toArray, Fr.ev, Tget_set, ↓reduceIte] <;> rfl) ?_
          exact ⟨_, by rw [bool_dec (p := q = q2 ∧ k = k2 ∧ c = c2 ∧ p = p2 ∧ L = M) (b := dec (L = M)) (by simp [hq, hk, hc, hp, dec_iff])], by repeat (first | exact Same.base _ _ _ | refine Same.hset hw ?_ (ky_le _ _))⟩
        · have np : (p == p2) = false := beq_eq_false_iff_ne.2 hp
          refine sndQ_body (K := (KT S0)) kt_ok mixed noNum (m := 0) Tryz.func107 ?_
          generalize hQ : retQ _ _ _ _ _ _ = Q0
          refine body_go (c := Tryz.f107.body.getD .skip) (n := 38) rfl rfl (by simp only [↓reduceIte, T.setList, T.set_e, T.set_n, Nat.reduceDiv, Nat.reduceMod, Nat.reduceEqDiff, Nat.zero_add] <;> rfl) ?_
          simp only [Tryz.f107, Option.getD_some]
          repeat' (first | with_reducible (first | refine r_seq ?_ | refine r_next ?_ | refine r_block ?_ | refine r_seq_exit ?_ | refine r_seq_ret ?_ | refine r_blk_n ?_ | refine r_blk_ret ?_ | refine r_blk_hit ?_ | refine r_blk_miss rfl ?_ | refine r_skip ?_ | refine r_exit ?_ | refine r_ret ?_ | refine r_rq_exit ?_ | refine r_rq_ret ?_) | ((with_reducible apply r_regA); (focus (exact sd2)); (focus (exact sd1))) | ((with_reducible refine r_reg (List.toList_toArray) ?_ ?_); focus (exact sd1)) | ((with_reducible apply r_end); focus (exact sd4)) | ((with_reducible (first | apply r_move | apply r_assign)); (focus (exact sd3)); (focus (exact sd7))) | ((with_reducible apply r_condT); (focus (exact sd3))) | ((with_reducible (first | apply r_any | apply r_cond)); focus (simp only [↓reduceIte, wantedA_eq, gBool_t, clsOf, newBlk, allocOp, Fr.ev, ofV, ofA, ofS, nVar, AV.cells, rowOf_mk, put_mk, upd_mk, keyOf_mk, ky_inj, pureOp, readOp, pFA, pFA1, pFA2, rLd, rdAB_row, oneCell_one, hget_same, hget_hset_ite, pBin, binA, intOp_eql, pPick, List.length_cons, List.length_nil, List.getElem?_cons_zero, List.getElem?_cons_succ, List.drop_zero, List.drop_succ_cons, List.take_succ_cons, List.take_zero, Nat.zero_add, Nat.add_zero, Nat.reduceAdd, Nat.reduceLT, Nat.reduceLeDiff, Nat.reduceEqDiff, Nat.reduceSub, Nat.add_eq, loadA_w, loadW_s, binA, stepOp, stV_mk, stB_mk, T.get_n, T.set_n, T.set_e, Nat.reduceDiv, Nat.reduceMod, sz2, ag2, sz3, ag3, Tryz.underlying28, stepAny, wantedA_none, nq, nk, nc, np] <;> rfl)) | (with_reducible rw [ifQ_t]) | (with_reducible rw [ifQ_f]) | (with_reducible refine ifQ_intro ?_ ?_ <;> intro hb))
          subst hQ
          refine ret_back (by simp only [Tryz.results107, resultOf, resultsA, resultA, List.toList_toArray, Fr.ev, Tget_set, ↓reduceIte] <;> rfl) ?_
          exact ⟨_, by rw [dec_f (p := q = q2 ∧ k = k2 ∧ c = c2 ∧ p = p2 ∧ L = M) (fun hA => hp hA.2.2.2.1)], by repeat (first | exact Same.base _ _ _ | refine Same.hset hw ?_ (ky_le _ _))⟩
      · have nc : (c == c2) = false := beq_eq_false_iff_ne.2 hc
        refine sndQ_body (K := (KT S0)) kt_ok mixed noNum (m := 0) Tryz.func107 ?_
        generalize hQ : retQ _ _ _ _ _ _ = Q0
        refine body_go (c := Tryz.f107.body.getD .skip) (n := 38) rfl rfl (by simp only [↓reduceIte, T.setList, T.set_e, T.set_n, Nat.reduceDiv, Nat.reduceMod, Nat.reduceEqDiff, Nat.zero_add] <;> rfl) ?_
        simp only [Tryz.f107, Option.getD_some]
        repeat' (first | with_reducible (first | refine r_seq ?_ | refine r_next ?_ | refine r_block ?_ | refine r_seq_exit ?_ | refine r_seq_ret ?_ | refine r_blk_n ?_ | refine r_blk_ret ?_ | refine r_blk_hit ?_ | refine r_blk_miss rfl ?_ | refine r_skip ?_ | refine r_exit ?_ | refine r_ret ?_ | refine r_rq_exit ?_ | refine r_rq_ret ?_) | ((with_reducible apply r_regA); (focus (exact sd2)); (focus (exact sd1))) | ((with_reducible refine r_reg (List.toList_toArray) ?_ ?_); focus (exact sd1)) | ((with_reducible apply r_end); focus (exact sd4)) | ((with_reducible (first | apply r_move | apply r_assign)); (focus (exact sd3)); (focus (exact sd7))) | ((with_reducible apply r_condT); (focus (exact sd3))) | ((with_reducible (first | apply r_any | apply r_cond)); focus (simp only [↓reduceIte, wantedA_eq, gBool_t, clsOf, newBlk, allocOp, Fr.ev, ofV, ofA, ofS, nVar, AV.cells, rowOf_mk, put_mk, upd_mk, keyOf_mk, ky_inj, pureOp, readOp, pFA, pFA1, pFA2, rLd, rdAB_row, oneCell_one, hget_same, hget_hset_ite, pBin, binA, intOp_eql, pPick, List.length_cons, List.length_nil, List.getElem?_cons_zero, List.getElem?_cons_succ, List.drop_zero, List.drop_succ_cons, List.take_succ_cons, List.take_zero, Nat.zero_add, Nat.add_zero, Nat.reduceAdd, Nat.reduceLT, Nat.reduceLeDiff, Nat.reduceEqDiff, Nat.reduceSub, Nat.add_eq, loadA_w, loadW_s, binA, stepOp, stV_mk, stB_mk, T.get_n, T.set_n, T.set_e, Nat.reduceDiv, Nat.reduceMod, sz2, ag2, sz3, ag3, Tryz.underlying28, stepAny, wantedA_none, nq, nk, nc] <;> rfl)) | (with_reducible rw [ifQ_t]) | (with_reducible rw [ifQ_f]) | (with_reducible refine ifQ_intro ?_ ?_ <;> intro hb))
        subst hQ
        refine ret_back (by simp only [Tryz.results107, resultOf, resultsA, resultA, List.toList_toArray, Fr.ev, Tget_set, ↓reduceIte] <;> rfl) ?_
        exact ⟨_, by rw [dec_f (p := q = q2 ∧ k = k2 ∧ c = c2 ∧ p = p2 ∧ L = M) (fun hA => hc hA.2.2.1)], by repeat (first | exact Same.base _ _ _ | refine Same.hset hw ?_ (ky_le _ _))⟩
    · have nk : (k == k2) = false := beq_eq_false_iff_ne.2 hk
      refine sndQ_body (K := (KT S0)) kt_ok mixed noNum (m := 0) Tryz.func107 ?_
      generalize hQ : retQ _ _ _ _ _ _ = Q0
      refine body_go (c := Tryz.f107.body.getD .skip) (n := 38) rfl rfl (by simp only [↓reduceIte, T.setList, T.set_e, T.set_n, Nat.reduceDiv, Nat.reduceMod, Nat.reduceEqDiff, Nat.zero_add] <;> rfl) ?_
      simp only [Tryz.f107, Option.getD_some]
      repeat' (first | with_reducible (first | refine r_seq ?_ | refine r_next ?_ | refine r_block ?_ | refine r_seq_exit ?_ | refine r_seq_ret ?_ | refine r_blk_n ?_ | refine r_blk_ret ?_ | refine r_blk_hit ?_ | refine r_blk_miss rfl ?_ | refine r_skip ?_ | refine r_exit ?_ | refine r_ret ?_ | refine r_rq_exit ?_ | refine r_rq_ret ?_) | ((with_reducible apply r_regA); (focus (exact sd2)); (focus (exact sd1))) | ((with_reducible refine r_reg (List.toList_toArray) ?_ ?_); focus (exact sd1)) | ((with_reducible apply r_end); focus (exact sd4)) | ((with_reducible (first | apply r_move | apply r_assign)); (focus (exact sd3)); (focus (exact sd7))) | ((with_reducible apply r_condT); (focus (exact sd3))) | ((with_reducible (first | apply r_any | apply r_cond)); focus (simp only [↓reduceIte, wantedA_eq, gBool_t, clsOf, newBlk, allocOp, Fr.ev, ofV, ofA, ofS, nVar, AV.cells, rowOf_mk, put_mk, upd_mk, keyOf_mk, ky_inj, pureOp, readOp, pFA, pFA1, pFA2, rLd, rdAB_row, oneCell_one, hget_same, hget_hset_ite, pBin, binA, intOp_eql, pPick, List.length_cons, List.length_nil, List.getElem?_cons_zero, List.getElem?_cons_succ, List.drop_zero, List.drop_succ_cons, List.take_succ_cons, List.take_zero, Nat.zero_add, Nat.add_zero, Nat.reduceAdd, Nat.reduceLT, Nat.reduceLeDiff, Nat.reduceEqDiff, Nat.reduceSub, Nat.add_eq, loadA_w, loadW_s, binA, stepOp, stV_mk, stB_mk, T.get_n, T.set_n, T.set_e, Nat.reduceDiv, Nat.reduceMod, sz2, ag2, sz3, ag3, Tryz.underlying28, stepAny, wantedA_none, nq, nk] <;> rfl)) | (with_reducible rw [ifQ_t]) | (with_reducible rw [ifQ_f]) | (with_reducible refine ifQ_intro ?_ ?_ <;> intro hb))
      subst hQ
      refine ret_back (by simp only [Tryz.results107, resultOf, resultsA, resultA, List.toList_toArray, Fr.ev, Tget_set, ↓reduceIte] <;> rfl) ?_
      exact ⟨_, by rw [dec_f (p := q = q2 ∧ k = k2 ∧ c = c2 ∧ p = p2 ∧ L = M) (fun hA => hk hA.2.1)], by repeat (first | exact Same.base _ _ _ | refine Same.hset hw ?_ (ky_le _ _))⟩
  · have nq : (q == q2) = false := beq_eq_false_iff_ne.2 hq
    refine sndQ_body (K := (KT S0)) kt_ok mixed noNum (m := 0) Tryz.func107 ?_
    generalize hQ : retQ _ _ _ _ _ _ = Q0
    refine body_go (c := Tryz.f107.body.getD .skip) (n := 38) rfl rfl (by simp only [↓reduceIte, T.setList, T.set_e, T.set_n, Nat.reduceDiv, Nat.reduceMod, Nat.reduceEqDiff, Nat.zero_add] <;> rfl) ?_
    simp only [Tryz.f107, Option.getD_some]
    repeat' (first | with_reducible (first | refine r_seq ?_ | refine r_next ?_ | refine r_block ?_ | refine r_seq_exit ?_ | refine r_seq_ret ?_ | refine r_blk_n ?_ | refine r_blk_ret ?_ | refine r_blk_hit ?_ | refine r_blk_miss rfl ?_ | refine r_skip ?_ | refine r_exit ?_ | refine r_ret ?_ | refine r_rq_exit ?_ | refine r_rq_ret ?_) | ((with_reducible apply r_regA); (focus (exact sd2)); (focus (exact sd1))) | ((with_reducible refine r_reg (List.toList_toArray) ?_ ?_); focus (exact sd1)) | ((with_reducible apply r_end); focus (exact sd4)) | ((with_reducible (first | apply r_move | apply r_assign)); (focus (exact sd3)); (focus (exact sd7))) | ((with_reducible apply r_condT); (focus (exact sd3))) | ((with_reducible (first | apply r_any | apply r_cond)); focus (simp only [↓reduceIte, wantedA_eq, gBool_t, clsOf, newBlk, allocOp, Fr.ev, ofV, ofA, ofS, nVar, AV.cells, rowOf_mk, put_mk, upd_mk, keyOf_mk, ky_inj, pureOp, readOp, pFA, pFA1, pFA2, rLd, rdAB_row, oneCell_one, hget_same, hget_hset_ite, pBin, binA, intOp_eql, pPick, List.length_cons, List.length_nil, List.getElem?_cons_zero, List.getElem?_cons_succ, List.drop_zero, List.take_succ_cons, List.take_zero, Nat.zero_add, Nat.add_zero, Nat.reduceAdd, Nat.reduceLT, Nat.reduceLeDiff, Nat.reduceEqDiff, Nat.reduceSub, Nat.add_eq, loadA_w, loadW_s, binA, stepOp, stV_mk, stB_mk, T.get_n, T.set_n, T.set_e, Nat.reduceDiv, Nat.reduceMod, sz2, ag2, Tryz.underlying28, stepAny, wantedA_none, nq] <;> rfl)) | (with_reducible rw [ifQ_t]) | (with_reducible rw [ifQ_f]) | (with_reducible refine ifQ_intro ?_ ?_ <;> intro hb))
    subst hQ
    refine ret_back (by simp only [Tryz.results107, resultOf, resultsA, resultA, List.toList_toArray, Fr.ev, Tget_set, ↓reduceIte] <;> rfl) ?_
    exact ⟨_, by rw [dec_f (p := q = q2 ∧ k = k2 ∧ c = c2 ∧ p = p2 ∧ L = M) (fun hA => hq hA.1)], by repeat (first | exact Same.base _ _ _ | refine Same.hset hw ?_ (ky_le _ _))⟩
theorem k_sameA {h h1 : Heap} {F : Nat} {q k c p q2 k2 c2 p2 : Int} {a b : AV} {L M : List (List AV)} (hL : LstP h ksV a L) (hM : LstP h ksV b M) (hs : SameH h h1) : CallF.fn (KT S) 107 [.agg [.int .i64 q, .int .i64 k, .int .i64 c, .int .i64 p, a], .agg [.int .i64 q2, .int .i64 k2, .int .i64 c2, .int .i64 p2, b]] ⟨h1, F⟩ = some [.val (.bool (dec (q = q2 ∧ k = k2 ∧ c = c2 ∧ p = p2 ∧ L = M))) ⟨h1, F⟩] :=
  kt_fn ((rfl : _ = spSm [.agg [.int .i64 q, .int .i64 k, .int .i64 c, .int .i64 p, a], .agg [.int .i64 q2, .int .i64 k2, .int .i64 c2, .int .i64 p2, b]] ⟨h1, F⟩).trans (by simp only [spSm, lstOf_same hL hs, lstOf_same hM hs])) (sameA h1 F q k c p q2 k2 c2 p2 a b L M (hL.same hs) (hM.same hs))
set_option maxHeartbeats 2000000 in
theorem sameB (h : Heap) (F : Nat) (q k c p q2 k2 c2 p2 : Int) (a b : AV) (L M : List (List AV)) (hL : LstP h ksV a L) (hM : LstP h ksV b M) : Snd Tryz.prog GL 24 [.agg [.int .i64 q, .int .i64 k, .int .i64 c, .int .i64 p, a], .agg [.int .i64 q2, .int .i64 k2, .int .i64 c2, .int .i64 p2, b]] ⟨h, F⟩ [.val (.bool (dec (q = q2 ∧ k = k2 ∧ c = c2 ∧ p = p2 ∧ L = M))) ⟨h, F⟩] := by
  refine snd_val (by simp [Kin]) fun hw => ?_
  by_cases hq : q = q2
  · have nq : (q == q2) = true := beq_iff_eq.2 hq
    by_cases hk : k = k2
    · have nk : (k == k2) = true := beq_iff_eq.2 hk
      by_cases hc : c = c2
      · have nc : (c == c2) = true := beq_iff_eq.2 hc
        by_cases hp : p = p2
        · have np : (p == p2) = true := beq_iff_eq.2 hp
          refine sndQ_body (K := (KT S0)) kt_ok mixed noNum (m := 0) Tryz.func24 ?_
          generalize hQ : retQ _ _ _ _ _ _ = Q0
          refine body_go (c := Tryz.f24.body.getD .skip) (n := 38) rfl rfl (by simp only [↓reduceIte, T.setList, T.set_e, T.set_n, Nat.reduceDiv, Nat.reduceMod, Nat.reduceEqDiff, Nat.zero_add] <;> rfl) ?_
          simp only [Tryz.f24, Option.getD_some]
          repeat' (first | with_reducible (first | refine r_seq ?_ | refine r_next ?_ | refine r_block ?_ | refine r_seq_exit ?_ | refine r_seq_ret ?_ | refine r_blk_n ?_ | refine r_blk_ret ?_ | refine r_blk_hit ?_ | refine r_blk_miss rfl ?_ | refine r_skip ?_ | refine r_exit ?_ | refine r_ret ?_ | refine r_rq_exit ?_ | refine r_rq_ret ?_) | ((with_reducible apply r_regA); (focus (exact sd2)); (focus (exact sd1))) | ((with_reducible refine r_reg (List.toList_toArray) ?_ ?_); focus (exact sd1)) | ((with_reducible apply r_end); focus (exact sd4)) | ((with_reducible (first | apply r_move | apply r_assign)); (focus (exact sd3)); (focus (exact sd7))) | ((with_reducible apply r_condT); (focus (exact sd3))) | ((with_reducible (first | apply r_any | apply r_cond)); focus (simp only [↓reduceIte, wantedA_eq, gBool_t, clsOf, clsCall, newBlk, allocOp, Fr.ev, evs, ofV, ofA, ofS, nVar, AV.cells, rowOf_mk, put_mk, upd_mk, keyOf_mk, ky_inj, pureOp, readOp, pFA, pFA1, pFA2, rLd, rdAB_row, oneCell_one, hget_same, hget_hset_ite, pBin, binA, intOp_eql, pPick, List.length_cons, List.length_nil, List.getElem?_cons_zero, List.getElem?_cons_succ, List.drop_zero, List.drop_succ_cons, List.take_succ_cons, List.take_zero, Nat.zero_add, Nat.add_zero, Nat.reduceAdd, Nat.reduceLT, Nat.reduceLeDiff, Nat.reduceEqDiff, Nat.reduceSub, Nat.add_eq, loadA_w, loadW_s, callTo_s, heavyCall, target, List.nil_append, List.append_nil, binA, stepOp, stHeavy, stV_mk, stB_mk, stO_mk, T.get_n, T.set_n, T.set_e, Nat.reduceDiv, Nat.reduceMod, sz2, ag2, sz3, ag3, sz26, ag26, Tryz.underlying28, stepAny, wantedA_none, nq, nk, nc, np, k_vals71 hL hM, sameS hw, sameT] <;> rfl)) | (with_reducible rw [ifQ_t]) | (with_reducible rw [ifQ_f]) | (with_reducible refine ifQ_intro ?_ ?_ <;> intro hb))
          subst hQ
          refine ret_back (by simp only [Tryz.results24, resultOf, resultsA, resultA, List.toList_toArray, Fr.ev, Tget_set, ↓reduceIte] <;> rfl) ?_
          exact ⟨_, by rw [bool_dec (p := q = q2 ∧ k = k2 ∧ c = c2 ∧ p = p2 ∧ L = M) (b := dec (L = M)) (by simp [hq, hk, hc, hp, dec_iff])], by repeat (first | exact Same.base _ _ _ | refine Same.hset hw ?_ (ky_le _ _))⟩
        · have np : (p == p2) = false := beq_eq_false_iff_ne.2 hp
          refine sndQ_body (K := (KT S0)) kt_ok mixed noNum (m := 0) Tryz.func24 ?_
          generalize hQ : retQ _ _ _ _ _ _ = Q0
          refine body_go (c := Tryz.f24.body.getD .skip) (n := 38) rfl rfl (by simp only [↓reduceIte, T.setList, T.set_e, T.set_n, Nat.reduceDiv, Nat.reduceMod, Nat.reduceEqDiff, Nat.zero_add] <;> rfl) ?_
          simp only [Tryz.f24, Option.getD_some]
          repeat' (first | with_reducible (first | refine r_seq ?_ | refine r_next ?_ | refine r_block ?_ | refine r_seq_exit ?_ | refine r_seq_ret ?_ | refine r_blk_n ?_ | refine r_blk_ret ?_ | refine r_blk_hit ?_ | refine r_blk_miss rfl ?_ | refine r_skip ?_ | refine r_exit ?_ | refine r_ret ?_ | refine r_rq_exit ?_ | refine r_rq_ret ?_) | ((with_reducible apply r_regA); (focus (exact sd2)); (focus (exact sd1))) | ((with_reducible refine r_reg (List.toList_toArray) ?_ ?_); focus (exact sd1)) | ((with_reducible apply r_end); focus (exact sd4)) | ((with_reducible (first | apply r_move | apply r_assign)); (focus (exact sd3)); (focus (exact sd7))) | ((with_reducible apply r_condT); (focus (exact sd3))) | ((with_reducible (first | apply r_any | apply r_cond)); focus (simp only [↓reduceIte, wantedA_eq, gBool_t, clsOf, newBlk, allocOp, Fr.ev, ofV, ofA, ofS, nVar, AV.cells, rowOf_mk, put_mk, upd_mk, keyOf_mk, ky_inj, pureOp, readOp, pFA, pFA1, pFA2, rLd, rdAB_row, oneCell_one, hget_same, hget_hset_ite, pBin, binA, intOp_eql, pPick, List.length_cons, List.length_nil, List.getElem?_cons_zero, List.getElem?_cons_succ, List.drop_zero, List.drop_succ_cons, List.take_succ_cons, List.take_zero, Nat.zero_add, Nat.add_zero, Nat.reduceAdd, Nat.reduceLT, Nat.reduceLeDiff, Nat.reduceEqDiff, Nat.reduceSub, Nat.add_eq, loadA_w, loadW_s, binA, stepOp, stV_mk, stB_mk, T.get_n, T.set_n, T.set_e, Nat.reduceDiv, Nat.reduceMod, sz2, ag2, sz3, ag3, Tryz.underlying28, stepAny, wantedA_none, nq, nk, nc, np] <;> rfl)) | (with_reducible rw [ifQ_t]) | (with_reducible rw [ifQ_f]) | (with_reducible refine ifQ_intro ?_ ?_ <;> intro hb))
          subst hQ
          refine ret_back (by simp only [Tryz.results24, resultOf, resultsA, resultA, List.toList_toArray, Fr.ev, Tget_set, ↓reduceIte] <;> rfl) ?_
          exact ⟨_, by rw [dec_f (p := q = q2 ∧ k = k2 ∧ c = c2 ∧ p = p2 ∧ L = M) (fun hA => hp hA.2.2.2.1)], by repeat (first | exact Same.base _ _ _ | refine Same.hset hw ?_ (ky_le _ _))⟩
      · have nc : (c == c2) = false := beq_eq_false_iff_ne.2 hc
        refine sndQ_body (K := (KT S0)) kt_ok mixed noNum (m := 0) Tryz.func24 ?_
        generalize hQ : retQ _ _ _ _ _ _ = Q0
        refine body_go (c := Tryz.f24.body.getD .skip) (n := 38) rfl rfl (by simp only [↓reduceIte, T.setList, T.set_e, T.set_n, Nat.reduceDiv, Nat.reduceMod, Nat.reduceEqDiff, Nat.zero_add] <;> rfl) ?_
        simp only [Tryz.f24, Option.getD_some]
        repeat' (first | with_reducible (first | refine r_seq ?_ | refine r_next ?_ | refine r_block ?_ | refine r_seq_exit ?_ | refine r_seq_ret ?_ | refine r_blk_n ?_ | refine r_blk_ret ?_ | refine r_blk_hit ?_ | refine r_blk_miss rfl ?_ | refine r_skip ?_ | refine r_exit ?_ | refine r_ret ?_ | refine r_rq_exit ?_ | refine r_rq_ret ?_) | ((with_reducible apply r_regA); (focus (exact sd2)); (focus (exact sd1))) | ((with_reducible refine r_reg (List.toList_toArray) ?_ ?_); focus (exact sd1)) | ((with_reducible apply r_end); focus (exact sd4)) | ((with_reducible (first | apply r_move | apply r_assign)); (focus (exact sd3)); (focus (exact sd7))) | ((with_reducible apply r_condT); (focus (exact sd3))) | ((with_reducible (first | apply r_any | apply r_cond)); focus (simp only [↓reduceIte, wantedA_eq, gBool_t, clsOf, newBlk, allocOp, Fr.ev, ofV, ofA, ofS, nVar, AV.cells, rowOf_mk, put_mk, upd_mk, keyOf_mk, ky_inj, pureOp, readOp, pFA, pFA1, pFA2, rLd, rdAB_row, oneCell_one, hget_same, hget_hset_ite, pBin, binA, intOp_eql, pPick, List.length_cons, List.length_nil, List.getElem?_cons_zero, List.getElem?_cons_succ, List.drop_zero, List.drop_succ_cons, List.take_succ_cons, List.take_zero, Nat.zero_add, Nat.add_zero, Nat.reduceAdd, Nat.reduceLT, Nat.reduceLeDiff, Nat.reduceEqDiff, Nat.reduceSub, Nat.add_eq, loadA_w, loadW_s, binA, stepOp, stV_mk, stB_mk, T.get_n, T.set_n, T.set_e, Nat.reduceDiv, Nat.reduceMod, sz2, ag2, sz3, ag3, Tryz.underlying28, stepAny, wantedA_none, nq, nk, nc] <;> rfl)) | (with_reducible rw [ifQ_t]) | (with_reducible rw [ifQ_f]) | (with_reducible refine ifQ_intro ?_ ?_ <;> intro hb))
        subst hQ
        refine ret_back (by simp only [Tryz.results24, resultOf, resultsA, resultA, List.toList_toArray, Fr.ev, Tget_set, ↓reduceIte] <;> rfl) ?_
        exact ⟨_, by rw [dec_f (p := q = q2 ∧ k = k2 ∧ c = c2 ∧ p = p2 ∧ L = M) (fun hA => hc hA.2.2.1)], by repeat (first | exact Same.base _ _ _ | refine Same.hset hw ?_ (ky_le _ _))⟩
    · have nk : (k == k2) = false := beq_eq_false_iff_ne.2 hk
      refine sndQ_body (K := (KT S0)) kt_ok mixed noNum (m := 0) Tryz.func24 ?_
      generalize hQ : retQ _ _ _ _ _ _ = Q0
      refine body_go (c := Tryz.f24.body.getD .skip) (n := 38) rfl rfl (by simp only [↓reduceIte, T.setList, T.set_e, T.set_n, Nat.reduceDiv, Nat.reduceMod, Nat.reduceEqDiff, Nat.zero_add] <;> rfl) ?_
      simp only [Tryz.f24, Option.getD_some]
      repeat' (first | with_reducible (first | refine r_seq ?_ | refine r_next ?_ | refine r_block ?_ | refine r_seq_exit ?_ | refine r_seq_ret ?_ | refine r_blk_n ?_ | refine r_blk_ret ?_ | refine r_blk_hit ?_ | refine r_blk_miss rfl ?_ | refine r_skip ?_ | refine r_exit ?_ | refine r_ret ?_ | refine r_rq_exit ?_ | refine r_rq_ret ?_) | ((with_reducible apply r_regA); (focus (exact sd2)); (focus (exact sd1))) | ((with_reducible refine r_reg (List.toList_toArray) ?_ ?_); focus (exact sd1)) | ((with_reducible apply r_end); focus (exact sd4)) | ((with_reducible (first | apply r_move | apply r_assign)); (focus (exact sd3)); (focus (exact sd7))) | ((with_reducible apply r_condT); (focus (exact sd3))) | ((with_reducible (first | apply r_any | apply r_cond)); focus (simp only [↓reduceIte, wantedA_eq, gBool_t, clsOf, newBlk, allocOp, Fr.ev, ofV, ofA, ofS, nVar, AV.cells, rowOf_mk, put_mk, upd_mk, keyOf_mk, ky_inj, pureOp, readOp, pFA, pFA1, pFA2, rLd, rdAB_row, oneCell_one, hget_same, hget_hset_ite, pBin, binA, intOp_eql, pPick, List.length_cons, List.length_nil, List.getElem?_cons_zero, List.getElem?_cons_succ, List.drop_zero, List.drop_succ_cons, List.take_succ_cons, List.take_zero, Nat.zero_add, Nat.add_zero, Nat.reduceAdd, Nat.reduceLT, Nat.reduceLeDiff, Nat.reduceEqDiff, Nat.reduceSub, Nat.add_eq, loadA_w, loadW_s, binA, stepOp, stV_mk, stB_mk, T.get_n, T.set_n, T.set_e, Nat.reduceDiv, Nat.reduceMod, sz2, ag2, sz3, ag3, Tryz.underlying28, stepAny, wantedA_none, nq, nk] <;> rfl)) | (with_reducible rw [ifQ_t]) | (with_reducible rw [ifQ_f]) | (with_reducible refine ifQ_intro ?_ ?_ <;> intro hb))
      subst hQ
      refine ret_back (by simp only [Tryz.results24, resultOf, resultsA, resultA, List.toList_toArray, Fr.ev, Tget_set, ↓reduceIte] <;> rfl) ?_
      exact ⟨_, by rw [dec_f (p := q = q2 ∧ k = k2 ∧ c = c2 ∧ p = p2 ∧ L = M) (fun hA => hk hA.2.1)], by repeat (first | exact Same.base _ _ _ | refine Same.hset hw ?_ (ky_le _ _))⟩
  · have nq : (q == q2) = false := beq_eq_false_iff_ne.2 hq
    refine sndQ_body (K := (KT S0)) kt_ok mixed noNum (m := 0) Tryz.func24 ?_
    generalize hQ : retQ _ _ _ _ _ _ = Q0
    refine body_go (c := Tryz.f24.body.getD .skip) (n := 38) rfl rfl (by simp only [↓reduceIte, T.setList, T.set_e, T.set_n, Nat.reduceDiv, Nat.reduceMod, Nat.reduceEqDiff, Nat.zero_add] <;> rfl) ?_
    simp only [Tryz.f24, Option.getD_some]
    repeat' (first | with_reducible (first | refine r_seq ?_ | refine r_next ?_ | refine r_block ?_ | refine r_seq_exit ?_ | refine r_seq_ret ?_ | refine r_blk_n ?_ | refine r_blk_ret ?_ | refine r_blk_hit ?_ | refine r_blk_miss rfl ?_ | refine r_skip ?_ | refine r_exit ?_ | refine r_ret ?_ | refine r_rq_exit ?_ | refine r_rq_ret ?_) | ((with_reducible apply r_regA); (focus (exact sd2)); (focus (exact sd1))) | ((with_reducible refine r_reg (List.toList_toArray) ?_ ?_); focus (exact sd1)) | ((with_reducible apply r_end); focus (exact sd4)) | ((with_reducible (first | apply r_move | apply r_assign)); (focus (exact sd3)); (focus (exact sd7))) | ((with_reducible apply r_condT); (focus (exact sd3))) | ((with_reducible (first | apply r_any | apply r_cond)); focus (simp only [↓reduceIte, wantedA_eq, gBool_t, clsOf, newBlk, allocOp, Fr.ev, ofV, ofA, ofS, nVar, AV.cells, rowOf_mk, put_mk, upd_mk, keyOf_mk, ky_inj, pureOp, readOp, pFA, pFA1, pFA2, rLd, rdAB_row, oneCell_one, hget_same, hget_hset_ite, pBin, binA, intOp_eql, pPick, List.length_cons, List.length_nil, List.getElem?_cons_zero, List.getElem?_cons_succ, List.drop_zero, List.take_succ_cons, List.take_zero, Nat.zero_add, Nat.add_zero, Nat.reduceAdd, Nat.reduceLT, Nat.reduceLeDiff, Nat.reduceEqDiff, Nat.reduceSub, Nat.add_eq, loadA_w, loadW_s, binA, stepOp, stV_mk, stB_mk, T.get_n, T.set_n, T.set_e, Nat.reduceDiv, Nat.reduceMod, sz2, ag2, Tryz.underlying28, stepAny, wantedA_none, nq] <;> rfl)) | (with_reducible rw [ifQ_t]) | (with_reducible rw [ifQ_f]) | (with_reducible refine ifQ_intro ?_ ?_ <;> intro hb))
    subst hQ
    refine ret_back (by simp only [Tryz.results24, resultOf, resultsA, resultA, List.toList_toArray, Fr.ev, Tget_set, ↓reduceIte] <;> rfl) ?_
    exact ⟨_, by rw [dec_f (p := q = q2 ∧ k = k2 ∧ c = c2 ∧ p = p2 ∧ L = M) (fun hA => hq hA.1)], by repeat (first | exact Same.base _ _ _ | refine Same.hset hw ?_ (ky_le _ _))⟩
theorem k_sameB {h h1 : Heap} {F : Nat} {q k c p q2 k2 c2 p2 : Int} {a b : AV} {L M : List (List AV)} (hL : LstP h ksV a L) (hM : LstP h ksV b M) (hs : SameH h h1) : CallF.fn (KT S) 24 [.agg [.int .i64 q, .int .i64 k, .int .i64 c, .int .i64 p, a], .agg [.int .i64 q2, .int .i64 k2, .int .i64 c2, .int .i64 p2, b]] ⟨h1, F⟩ = some [.val (.bool (dec (q = q2 ∧ k = k2 ∧ c = c2 ∧ p = p2 ∧ L = M))) ⟨h1, F⟩] :=
  kt_fn ((rfl : _ = spSm [.agg [.int .i64 q, .int .i64 k, .int .i64 c, .int .i64 p, a], .agg [.int .i64 q2, .int .i64 k2, .int .i64 c2, .int .i64 p2, b]] ⟨h1, F⟩).trans (by simp only [spSm, lstOf_same hL hs, lstOf_same hM hs])) (sameB h1 F q k c p q2 k2 c2 p2 a b L M (hL.same hs) (hM.same hs))
set_option maxHeartbeats 4000000 in
theorem allF (h : Heap) (F : Nat) (a b : AV) (X X2 : List (List AV)) (Y Y2 : List (List (List AV))) (hA : RowN h ksR 4 ksV a X Y) (hB : RowN h ksR 4 ksV b X2 Y2) : Snd Tryz.prog GL 106 [a, b, .fn (.func 107) [] []] ⟨h, F⟩ [.val (.bool (dec (resAll X X2 Y Y2))) ⟨h, F⟩] := by
  refine snd_val (by simp [Kin]) fun hw => ?_
  have mxl : maxLen = 9223372036854775807 := by decide
  have lA := fun (h2 : Heap) => rLen1_L (h2 := h2) Tryz.underlying23 hA.1
  have lB := fun (h2 : Heap) => rLen1_L (h2 := h2) Tryz.underlying23 hB.1
  have hlen := hA.1.len
  by_cases hXX : X.length = X2.length
  · have hne : ((X.length : Int) != (X2.length : Int)) = false := by simp [hXX]
    refine sndQ_body (K := (KT S0)) kt_ok mixed noNum (m := X.length + 1) Tryz.func106 ?_
    generalize hQ : retQ _ _ _ _ _ _ = Q0
    refine body_go (c := Tryz.f106.body.getD .skip) (n := 32) rfl rfl (by simp only [↓reduceIte, T.setList, T.set_e, T.set_n, Nat.reduceDiv, Nat.reduceMod, Nat.reduceEqDiff, Nat.reduceSub, Nat.reduceAdd, Nat.zero_add] <;> rfl) ?_
    simp only [Tryz.f106, Option.getD_some]
    repeat' (first | with_reducible (first | refine r_seq ?_ | refine r_next ?_ | refine r_block ?_ | refine r_seq_exit ?_ | refine r_seq_ret ?_ | refine r_blk_n ?_ | refine r_blk_ret ?_ | refine r_blk_hit ?_ | refine r_blk_miss rfl ?_ | refine r_skip ?_ | refine r_exit ?_ | refine r_ret ?_ | refine r_rq_exit ?_ | refine r_rq_ret ?_) | ((with_reducible apply r_regA); (focus (exact sd2)); (focus (exact sd1))) | ((with_reducible refine r_reg (List.toList_toArray) ?_ ?_); focus (exact sd1)) | ((with_reducible apply r_end); focus (exact sd4)) | ((with_reducible (first | apply r_move | apply r_assign)); (focus (exact sd3)); (focus (exact sd7))) | ((with_reducible apply r_condT); (focus (exact sd3))) | ((with_reducible (first | apply r_any | apply r_cond)); focus (simp only [↓reduceIte, clsOf, clsCall, Fr.ev, ofV, ofA, ofS, put_mk, pureOp, readOp, pBin, binA, intOp_neq, List.getElem?_cons_zero, Nat.reduceLT, Nat.reduceEqDiff, Nat.reduceSub, binA, stepOp, stV_mk, T.get_n, T.set_n, T.set_e, Nat.reduceDiv, Nat.reduceMod, stepAny, wantedA_none, rCall, rLen, lA, lB, hne, intOp_neq] <;> rfl)) | (with_reducible rw [ifQ_t]) | (with_reducible rw [ifQ_f]) | (with_reducible refine ifQ_intro ?_ ?_ <;> intro hb))
    refine r_loop (I := fun nn fr s1 => ∃ lc tt h1 i, fr = ⟨F, lc, 32, tt, [], .no⟩ ∧ s1 = ⟨h1, F + 1⟩ ∧ i ≤ X.length ∧ nn = X.length - i ∧ lc + nn * 1000 ≤ 100000000000000000000000000 ∧ SameH h h1 ∧ tt.get 0 = some (a) ∧ tt.get 1 = some (b) ∧ tt.get 2 = some (.fn (.func 107) [] []) ∧ tt.get 15 = some (a) ∧ tt.get 16 = some (.int .i64 (X.length : Int)) ∧ tt.get 17 = some (.int .i64 (i : Int)) ∧ (∀ (j : Nat) (x x2 : List AV) (o o2 : List (List AV)), j < i → X[j]? = some x → X2[j]? = some x2 → Y[j]? = some o → Y2[j]? = some o2 → x.take 4 = x2.take 4 ∧ o = o2)) (n := X.length) ?_ ?_ ?_
    · omega
    · exact ⟨_, _, _, 0, rfl, rfl, Nat.zero_le _, (Nat.sub_zero _).symm, by omega, SameH.refl h, (by first | (simp only [T.get_n, ↓reduceIte] <;> rfl) | rfl), (by first | (simp only [T.get_n, Nat.reduceEqDiff, Nat.reduceDiv, Nat.reduceMod, ↓reduceIte] <;> rfl) | rfl), (by first | (simp only [T.get_n, Nat.reduceEqDiff, Nat.reduceDiv, Nat.reduceMod, Nat.reduceSub, ↓reduceIte] <;> rfl) | rfl), (by first | (simp only [T.get_n, Nat.reduceEqDiff, Nat.reduceDiv, Nat.reduceMod, ↓reduceIte] <;> rfl) | rfl), (by first | (simp only [T.get_n, Nat.reduceEqDiff, Nat.reduceDiv, Nat.reduceMod, Nat.reduceSub, ↓reduceIte] <;> rfl) | rfl), (by first | (simp only [T.get_n, Nat.reduceEqDiff, Nat.reduceDiv, Nat.reduceMod, Nat.reduceSub, ↓reduceIte] <;> rfl) | rfl), fun j _ _ _ _ hj => absurd hj (Nat.not_lt_zero _)⟩
    rintro nn fr s1 ⟨lc, tt, h1, i, rfl, rfl, hi, rfl, hlc, hS, u0, u1, u2, u15, u16, u17, hI⟩
    by_cases hil : i < X.length
    · obtain ⟨b1, o1, eo1, cap1, q, k, c, p, v, l, rfl, hb1, hx1, hy1, _, _, _, _, hl1, r1, _⟩ := res_at hw hA hS hil
      obtain ⟨b2, o2, eo2, cap2, q2, k2, c2, p2, v2, l2, rfl, hb2, hx2, hy2, _, _, _, _, hl2, r2, _⟩ := res_at hw hB hS (show i < X2.length by omega)
      repeat' (first | with_reducible (first | refine r_seq ?_ | refine r_next ?_ | refine r_block ?_ | refine r_seq_exit ?_ | refine r_seq_ret ?_ | refine r_blk_n ?_ | refine r_blk_ret ?_ | refine r_blk_hit ?_ | refine r_blk_miss rfl ?_ | refine r_skip ?_ | refine r_exit ?_ | refine r_ret ?_ | refine r_rq_exit ?_ | refine r_rq_ret ?_) | ((with_reducible apply r_regA); (focus (exact sd2)); (focus (exact sd1))) | ((with_reducible refine r_reg (List.toList_toArray) ?_ ?_); focus (exact sd1)) | ((with_reducible apply r_end); focus (exact sd4)) | ((with_reducible (first | apply r_move | apply r_assign)); (focus (simp only [Tget_set, Nat.reduceEqDiff, ↓reduceIte, u1, u2, u17] <;> rfl)); (focus (exact sd7))) | ((with_reducible apply r_condT); (focus (exact sd3))) | ((with_reducible (first | apply r_any | apply r_cond)); focus (simp only [↓reduceIte, clsOf, clsCall, newBlk, allocOp, Fr.ev, evs, ofV, ofA, ofS, nVar, AV.cells, rowOf_mk, put_mk, put_none, upd_mk, keyOf_mk, ky_inj, pureOp, readOp, rLd, rdAB_row, someAgg_s, hget_same, hget_hset_ite, pBin, binA, intOp_lss, List.length_cons, List.length_nil, List.drop_zero, List.take_succ_cons, List.take_zero, Nat.zero_add, Nat.reduceAdd, Nat.reduceLT, Nat.reduceLeDiff, Nat.reduceEqDiff, and_self, loadA_w, loadW_a, aSt_w, stOut_s, wrAB_row, ovr, List.set_cons_zero, List.set_cons_succ, allCell, ic_i, pUn_not, callTo_s, heavyCall, target, actOp, List.nil_append, List.append_nil, binA, stepOp, stHeavy, stV_mk, stB_mk, stO_mk, sz28, ag28, zr28, tg28, stepAny, wantedA_none, Tget_set, Nat.left_eq_add, u15, u16, u17, lt_t hil, pIA_s Tryz.underlying23 sz28 hil, pIA_s Tryz.underlying23 sz28 (show i < X2.length by omega), r1, r2, ky_old hb2, k_sameA hl1 hl2, isCell_L hl1, isCell_L hl2, hS, sameS hw, intOp_add (inR_succ hil hlen)] <;> rfl)) | (with_reducible rw [ifQ_t]) | (with_reducible rw [ifQ_f]) | (with_reducible refine ifQ_intro ?_ ?_ <;> intro hb))
      · have hx : ¬ (q = q2 ∧ k = k2 ∧ c = c2 ∧ p = p2 ∧ l = l2) := fun hx => by rw [dec_t hx] at hb; cases hb
        subst hQ
        refine ret_back (by simp only [Tryz.results106, resultOf, resultsA, resultA, List.toList_toArray, Fr.ev, Tget_set, ↓reduceIte] <;> rfl) ?_
        exact ⟨_, by rw [dec_f (p := resAll X X2 Y Y2) fun hR => hx (by obtain ⟨g1, g2⟩ := hR.2 i _ _ _ _ hx1 hx2 hy1 hy2; simp at g1; exact ⟨g1.1, g1.2.1, g1.2.2.1, g1.2.2.2, g2⟩)], by repeat (first | exact Same.base _ _ _ | exact hS | refine Same.hset hw ?_ (ky_le _ _))⟩
      · have hx : q = q2 ∧ k = k2 ∧ c = c2 ∧ p = p2 ∧ l = l2 := dec_iff.1 (by simpa using hb)
        refine r_rq_n (k := X.length - (i + 1)) (by omega) ⟨_, _, _, i + 1, rfl, rfl, by omega, rfl, by omega, ?_, (by first | (simp only [Tget_set, Nat.reduceEqDiff, ↓reduceIte, u0] <;> rfl) | rfl), (by first | (simp only [Tget_set, Nat.reduceEqDiff, ↓reduceIte, u1] <;> rfl) | rfl), (by first | (simp only [Tget_set, Nat.reduceEqDiff, ↓reduceIte, u2] <;> rfl) | rfl), (by first | (simp only [Tget_set, Nat.reduceEqDiff, ↓reduceIte, u15] <;> rfl) | rfl), (by first | (simp only [Tget_set, Nat.reduceEqDiff, ↓reduceIte, u16] <;> rfl) | rfl), (by first | (simp only [Tget_set, ↓reduceIte] <;> rfl) | rfl), ?_⟩
        · repeat (first | exact hS | refine SameH.hset hw ?_ (ky_le _ _))
        · intro j x x2 o o2 hj g1 g2 g3 g4
          rcases Nat.lt_or_ge j i with hji | hji
          · exact hI j x x2 o o2 hji g1 g2 g3 g4
          · obtain rfl : j = i := by omega
            rw [hx1] at g1; rw [hx2] at g2; rw [hy1] at g3; rw [hy2] at g4
            cases g1; cases g2; cases g3; cases g4
            obtain ⟨rfl, rfl, rfl, rfl, rfl⟩ := hx
            exact ⟨rfl, rfl⟩
    · repeat' (first | with_reducible (first | refine r_seq ?_ | refine r_next ?_ | refine r_block ?_ | refine r_seq_exit ?_ | refine r_seq_ret ?_ | refine r_blk_n ?_ | refine r_blk_ret ?_ | refine r_blk_hit ?_ | refine r_blk_miss rfl ?_ | refine r_skip ?_ | refine r_exit ?_ | refine r_ret ?_ | refine r_rq_exit ?_ | refine r_rq_ret ?_) | ((with_reducible apply r_regA); (focus (exact sd2)); (focus (exact sd1))) | ((with_reducible refine r_reg (List.toList_toArray) ?_ ?_); focus (exact sd1)) | ((with_reducible apply r_end); focus (exact sd4)) | ((with_reducible (first | apply r_move | apply r_assign)); (focus (simp only [Tget_set, T.get_n, T.get_e, Nat.reduceEqDiff, Nat.reduceDiv, Nat.reduceMod, Nat.reduceSub, ↓reduceIte, if_true, if_false, u0, u1, u2, u15, u16, u17] <;> rfl)); (focus (exact sd7))) | ((with_reducible apply r_condT); (focus (exact sd3))) | ((with_reducible (first | apply r_any | apply r_cond)); focus (simp only [↓reduceIte, clsOf, Fr.ev, ofV, ofA, ofS, put_mk, pureOp, pBin, binA, intOp_lss, Nat.reduceLT, binA, stepOp, stV_mk, stepAny, wantedA_none, u16, u17, lt_f hil] <;> rfl)) | (with_reducible rw [ifQ_t]) | (with_reducible rw [ifQ_f]) | (with_reducible refine ifQ_intro ?_ ?_ <;> intro hb))
      subst hQ
      refine ret_back (by simp only [Tryz.results106, resultOf, resultsA, resultA, List.toList_toArray, Fr.ev, Tget_set, ↓reduceIte] <;> rfl) ?_
      exact ⟨_, by rw [dec_t (p := resAll X X2 Y Y2) ⟨hXX, fun j x x2 o o2 g1 => hI j x x2 o o2 (by have := (List.getElem?_eq_some_iff.1 g1).1; omega) g1⟩], by repeat (first | exact Same.base _ _ _ | exact hS | refine Same.hset hw ?_ (ky_le _ _))⟩
  · have hne : ((X.length : Int) != (X2.length : Int)) = true := by simp; omega
    refine sndQ_body (K := (KT S0)) kt_ok mixed noNum (m := 0) Tryz.func106 ?_
    generalize hQ : retQ _ _ _ _ _ _ = Q0
    refine body_go (c := Tryz.f106.body.getD .skip) (n := 32) rfl rfl (by simp only [↓reduceIte, T.setList, T.set_e, T.set_n, Nat.reduceDiv, Nat.reduceMod, Nat.reduceEqDiff, Nat.reduceSub, Nat.reduceAdd, Nat.zero_add] <;> rfl) ?_
    simp only [Tryz.f106, Option.getD_some]
    repeat' (first | with_reducible (first | refine r_seq ?_ | refine r_next ?_ | refine r_block ?_ | refine r_seq_exit ?_ | refine r_seq_ret ?_ | refine r_blk_n ?_ | refine r_blk_ret ?_ | refine r_blk_hit ?_ | refine r_blk_miss rfl ?_ | refine r_skip ?_ | refine r_exit ?_ | refine r_ret ?_ | refine r_rq_exit ?_ | refine r_rq_ret ?_) | ((with_reducible apply r_regA); (focus (exact sd2)); (focus (exact sd1))) | ((with_reducible refine r_reg (List.toList_toArray) ?_ ?_); focus (exact sd1)) | ((with_reducible apply r_end); focus (exact sd4)) | ((with_reducible (first | apply r_move | apply r_assign)); (focus (exact sd3)); (focus (exact sd7))) | ((with_reducible apply r_condT); (focus (exact sd3))) | ((with_reducible (first | apply r_any | apply r_cond)); focus (simp only [↓reduceIte, clsOf, clsCall, Fr.ev, ofV, ofA, ofS, put_mk, pureOp, readOp, pBin, binA, intOp_neq, List.getElem?_cons_zero, Nat.reduceLT, Nat.reduceEqDiff, Nat.reduceSub, binA, stepOp, stV_mk, T.get_n, T.set_n, T.set_e, Nat.reduceDiv, Nat.reduceMod, stepAny, wantedA_none, rCall, rLen, lA, lB, hne, intOp_neq] <;> rfl)) | (with_reducible rw [ifQ_t]) | (with_reducible rw [ifQ_f]) | (with_reducible refine ifQ_intro ?_ ?_ <;> intro hb))
    subst hQ
    refine ret_back (by simp only [Tryz.results106, resultOf, resultsA, resultA, List.toList_toArray, Fr.ev, T.get_n, Nat.reduceDiv, Nat.reduceMod, Nat.reduceSub, Nat.reduceEqDiff, ↓reduceIte] <;> rfl) ?_
    exact ⟨_, by rw [dec_f (p := resAll X X2 Y Y2) fun hR => hXX hR.1], Same.base _ _ _⟩

theorem k_allF {h h1 : Heap} {F : Nat} {a b : AV} {X X2 : List (List AV)} {Y Y2 : List (List (List AV))} (hA : RowN h ksR 4 ksV a X Y) (hB : RowN h ksR 4 ksV b X2 Y2) (hs : SameH h h1) : CallF.fn (KT S) 106 [a, b, .fn (.func 107) [] []] ⟨h1, F⟩ = some [.val (.bool (dec (resAll X X2 Y Y2))) ⟨h1, F⟩] :=
  kt_fn ((rfl : _ = spEf [a, b, .fn (.func 107) [] []] ⟨h1, F⟩).trans (by simp only [spEf, rowsOf_same hA hs, rowsOf_same hB hs])) (allF h1 F a b X X2 Y Y2 (hA.same hs) (hB.same hs))
theorem same3 (h : Heap) (F : Nat) (a b : AV) (X X2 : List (List AV)) (Y Y2 : List (List (List AV))) (hA : RowN h ksR 4 ksV a X Y) (hB : RowN h ksR 4 ksV b X2 Y2) : Snd Tryz.prog GL 56 [a, b] ⟨h, F⟩ [.val (.bool (dec (resAll X X2 Y Y2))) ⟨h, F⟩] := by
  refine snd_val (by simp [Kin]) fun hw => ?_
  refine sndQ_body (K := (KT S0)) kt_ok mixed noNum (m := 0) Tryz.func56 ?_
  generalize hQ : retQ _ _ _ _ _ _ = Q0
  refine body_go (c := Tryz.f56.body.getD .skip) (n := 8) rfl rfl (by simp only [↓reduceIte, T.setList, T.set_e, T.set_n, Nat.reduceDiv, Nat.reduceMod, Nat.reduceEqDiff, Nat.zero_add] <;> rfl) ?_
  simp only [Tryz.f56, Option.getD_some]
  repeat' (first | with_reducible (first | refine r_seq ?_ | refine r_next ?_ | refine r_block ?_ | refine r_seq_exit ?_ | refine r_seq_ret ?_ | refine r_blk_n ?_ | refine r_blk_ret ?_ | refine r_blk_hit ?_ | refine r_blk_miss rfl ?_ | refine r_skip ?_ | refine r_exit ?_ | refine r_ret ?_ | refine r_rq_exit ?_ | refine r_rq_ret ?_) | ((with_reducible apply r_regA); (focus (exact sd2)); (focus (exact sd1))) | ((with_reducible refine r_reg (List.toList_toArray) ?_ ?_); focus (exact sd1)) | ((with_reducible apply r_end); focus (exact sd4)) | ((with_reducible (first | apply r_move | apply r_assign)); (focus (exact sd3)); (focus (exact sd7))) | ((with_reducible apply r_condT); (focus (exact sd3))) | ((with_reducible (first | apply r_any | apply r_cond)); focus (simp only [↓reduceIte, clsOf, clsCall, Fr.ev, evs, ofV, ofA, ofS, put_mk, pureOp, Nat.reduceLT, Nat.reduceEqDiff, Nat.reduceSub, callTo_s, heavyCall, target, List.nil_append, List.append_nil, stepOp, stHeavy, stV_mk, stO_mk, T.get_n, T.set_n, T.set_e, Nat.reduceDiv, Nat.reduceMod, stepAny, wantedA_none, k_allF hA hB, sameT] <;> rfl)) | (with_reducible rw [ifQ_t]) | (with_reducible rw [ifQ_f]) | (with_reducible refine ifQ_intro ?_ ?_ <;> intro hb))
  subst hQ
  refine ret_back (by simp only [Tryz.results56, resultOf, resultsA, resultA, List.toList_toArray, Fr.ev, Tget_set, ↓reduceIte] <;> rfl) ?_
  exact ⟨_, rfl, Same.base _ _ _⟩
theorem k_same3 {h h1 : Heap} {F : Nat} {a b : AV} {X X2 : List (List AV)} {Y Y2 : List (List (List AV))} (hA : RowN h ksR 4 ksV a X Y) (hB : RowN h ksR 4 ksV b X2 Y2) (hs : SameH h h1) : CallF.fn (KT S) 56 [a, b] ⟨h1, F⟩ = some [.val (.bool (dec (resAll X X2 Y Y2))) ⟨h1, F⟩] :=
  kt_fn ((rfl : _ = spAl [a, b] ⟨h1, F⟩).trans (by simp only [spAl, rowsOf_same hA hs, rowsOf_same hB hs])) (same3 h1 F a b X X2 Y Y2 (hA.same hs) (hB.same hs))
end

end Go.Proofs.YtfhgiadogeephaaGreatDoor

/-! A region that draws its order: one new block of its own, appends; what is looked at lies in the memory that the region found. -/
namespace Go.Ai
open Go
variable {P : Program} {G : Glob} {K : CallF} {m : Nat} {Q : Ex → Fr → St → Prop}

/-! ### a memory without what is forgotten -/
noncomputable def T.filt {α : Type} : T α → (Nat → Bool) → T α
  | .e, _ => .e
  | .n l v r, p => .n (T.filt l fun j => p (2 * j + 1)) (match p 0 with | true => v | false => none) (T.filt r fun j => p (2 * j + 2))
theorem T.get_filt {α : Type} : ∀ (t : T α) (p : Nat → Bool) (k : Nat), (T.filt t p).get k = if p k = true then t.get k else none
  | .e, p, k => by simp [T.filt, T.get_e]
  | .n l v r, p, k => by
    rw [T.filt, T.get_n, T.get_n]
    by_cases h0 : k = 0
    · subst h0
      simp only [if_true]
      cases p 0 <;> simp
    · rw [if_neg h0, if_neg h0]
      by_cases h1 : k % 2 = 1
      · rw [if_pos h1, if_pos h1, T.get_filt l, show 2 * (k / 2) + 1 = k by omega]
      · rw [if_neg h1, if_neg h1, T.get_filt r, show 2 * (k / 2 - 1) + 2 = k by omega]
noncomputable def sweep (h : Heap) (F : Nat) : Heap := T.filt h fun j => Nat.blt j F
theorem hget_sweep (h : Heap) (F i : Nat) : hget (sweep h F) i = if i < ky F 0 then hget h i else none := by
  unfold hget sweep
  rw [T.get_filt]
  have key : Nat.blt (Nat.div i 1267650600228229401496703205376) F = true ↔ i < ky F 0 := by
    rw [Nat.blt_eq]
    show i / 1267650600228229401496703205376 < F ↔ _
    unfold ky
    rw [Nat.div_lt_iff_lt_mul (by decide)]
    omega
  by_cases h : i < ky F 0
  · rw [if_pos (key.2 h), if_pos h]
  · rw [if_neg (fun e => h (key.1 e)), if_neg h]
/-- the same memory: the same blocks that are there -/
def AlikeH (h h' : Heap) : Prop := ∀ i ab, ab ≠ .dead → (hget h i = some ab ↔ hget h' i = some ab)
theorem AlikeH.symm {h h' : Heap} (a : AlikeH h h') : AlikeH h' h := fun i ab hd => (a i ab hd).symm
theorem alike_sweep {h : Heap} {F : Nat} (hw : Wf ⟨h, F⟩) : AlikeH h (sweep h F) := by
  intro i ab hd
  rw [hget_sweep]
  constructor
  · intro hi
    rw [if_pos (hw i ab hi hd)]; exact hi
  · intro hi
    split at hi
    · exact hi
    · cases hi
theorem AlikeH.live {h h' : Heap} (a : AlikeH h h') {i : Nat} (l : live (hget h) i) : live (hget h') i := by
  obtain ⟨ab, h1, h2⟩ := l
  exact ⟨ab, (a i ab h2.nd).1 h1, h2⟩
theorem AlikeH.rh {h h' : Heap} (a : AlikeH h h') {ρ : Map} {base : Nat} {w : World} (r : RH ρ base (hget h) w) : RH ρ base (hget h') w :=
  ⟨fun i ab hi hd => r.blk i ab ((a i ab hd).2 hi) hd, fun i j e e' li lj => r.inj i j e e' (a.symm.live li) (a.symm.live lj)⟩
theorem AlikeH.rm {h h' : Heap} {F : Nat} (a : AlikeH h h') {ρ : Map} {base : Nat} {w : World} (r : RM G base ρ ⟨h, F⟩ w) : RM G base ρ ⟨h', F⟩ w := ⟨a.rh r.rh, r.rg, r.bs, r.hi⟩
theorem AlikeH.owns {h h' : Heap} (a : AlikeH h h') {ρ : Map} {b : Nat} (o : owns ρ (hget h) b) : owns ρ (hget h') b := by
  obtain ⟨i, e, l, h1, h2⟩ := o
  exact ⟨i, e, a.live l, h1, h2⟩
theorem AlikeH.adv {h h' h1 h1' : Heap} {F F1 base : Nat} (a : AlikeH h h') (a1 : AlikeH h1 h1') {ρ ρ1 : Map} {w w1 : World} (v : Adv base (fun _ => False) ρ ⟨h, F⟩ w ρ1 ⟨h1, F1⟩ w1) : Adv base (fun _ => False) ρ ⟨h', F⟩ w ρ1 ⟨h1', F1⟩ w1 :=
  ⟨⟨v.st.mono, ⟨v.st.keeps.os, v.st.keeps.tape, v.st.keeps.output, v.st.keeps.size, fun b hb hn => v.st.keeps.block b hb fun o => hn (a.owns o)⟩, a1.rh v.st.rh, fun b hb => (v.st.grow b (a1.symm.owns hb)).imp (fun o => a.owns o) id⟩, v.fc, v.keep, v.hi⟩
/-! ### the walk along the order -/
/-! ### rules -/
section
variable {l : List Oper} {h0 : Heap} {j : Nat} {js : List Nat} {fr fr' : Fr} {s s' : St} {dst : Option Tmp} {op : Op} {ty : TypeId} {pos : String} {after : Array Edge} {pend : Option (Nat × AB)} {dn : Option Nat} {v : AV}
end
end Go.Ai

/-! A region that draws its order, with all that it may do: looks, new blocks, acts, calls. -/
namespace Go.Ai
open Go
variable {P : Program} {G : Glob} {K : CallF} {m : Nat} {Q : Ex → Fr → St → Prop}
abbrev Rds := List (Nat × Nat × Op × AV)
def DG (P : Program) (G : Glob) (K : CallF) (l : List Oper) (Q : Ex → Fr → St → Prop) : List (Nat × Nat) → Fr → St → Made → Rds → Prop
  | [], fr, s, M, _ => Q .normal (fr.bump l.length) (s.withH (addAll s.h M))
  | (j, b) :: r, fr, s, M, rs => ∃ o, l[j]? = some o ∧
      ((wantedA fr l.toArray o = false ∧ ∃ fr', fr.put o.dst .undef = some fr' ∧ DG P G K l Q r fr' s M rs) ∨
       (wantedA fr l.toArray o = true ∧ clsOf o.op = .pure ∧ ∃ v fr', pureOp P fr o.op = some v ∧ fr.put o.dst v = some fr' ∧ DG P G K l Q r fr' s M rs) ∨
       (wantedA fr l.toArray o = true ∧ clsOf o.op = .read ∧ ∃ v fr', readOp P G fr (addMade b s.h M) o.op = some v ∧ fr.put o.dst v = some fr' ∧ DG P G K l Q r fr' s M ((j, b, o.op, v) :: rs)) ∨
       (wantedA fr l.toArray o = true ∧ clsOf o.op = .alloc ∧ ∃ v blk fr', allocOp P fr (keyOf fr j) o.op = some (v, blk) ∧ hget s.h (keyOf fr j) = none ∧ fr.put o.dst v = some fr' ∧ DG P G K l Q r fr' s ((j, keyOf fr j, blk) :: M) rs) ∨
       (wantedA fr l.toArray o = true ∧ clsOf o.op = .heavy ∧ (∀ t x, o.op ≠ .range t x) ∧ ∃ outs, heavy P K fr (keyOf fr j) (s.withH (addMade b s.h M)) o.op = some outs ∧
          ∀ x ∈ outs, backQ fr o.dst (fun fr' s' => readsOk P G fr s'.h M (readsLeft b rs) = true ∧ asideOk (addMade b s.h M) s'.h M = true ∧ DG P G K l Q r fr' s' M rs) x))
theorem dg_sound {l : List Oper} : ∀ {order : List DE} {js : List (Nat × Nat)} {done : Nat} {fr : Fr} {s : St} {M : Made} {rs : Rds}, order.map (fun e => (e.1, e.2.1)) = js → (∀ e ∈ order, l[e.1]? = some e.2.2.2) → DG P G K l Q js fr s M rs → WR (drawOps P G K l.toArray l.length order done fr s ⟨M, rs⟩) Q
  | [], js, done, fr, s, M, rs, hj, _, hw => by
    subst hj
    simp only [drawOps, wr_one]
    exact hw
  | (i, b, c, o) :: rest, js, done, fr, s, M, rs, hj, hl, hw => by
    subst hj
    simp only [List.map_cons, DG] at hw
    obtain ⟨o', ho, hw⟩ := hw
    have := hl _ List.mem_cons_self
    simp only at this
    rw [this] at ho
    cases ho
    have hl' : ∀ e ∈ rest, l[e.1]? = some e.2.2.2 := fun e he => hl e (List.mem_cons_of_mem _ he)
    rcases hw with ⟨hg, fr', hp, hw⟩ | ⟨hg, hcl, v, fr', h1, hp, hw⟩ | ⟨hg, hcl, v, fr', h1, hp, hw⟩ | ⟨hg, hcl, v, blk, fr', h1, h2, hp, hw⟩ | ⟨hg, hcl, hr, outs, h1, hbk⟩
    · simp only [drawOps, hg, hp, putK, natC_eq]
      exact dg_sound rfl hl' hw
    · simp only [drawOps, hg, dOne, hcl, h1, putV, hp, putK, natC_eq]
      exact dg_sound rfl hl' hw
    · simp only [drawOps, hg, dOne, hcl, h1, dRead, hp, putK, natC_eq]
      exact dg_sound rfl hl' hw
    · simp only [drawOps, hg, dOne, hcl, h1, dAlloc, h2, hp, putK, natC_eq]
      exact dg_sound rfl hl' hw
    · simp only [drawOps, hg, dOne, hcl]
      have e3 : dHeavy P G K o b i done fr (s.withH (addMade b s.h M)) ⟨M, rs⟩ (fun fr s z => natC (Nat.lor done (2 ^ i)) fun d => drawOps P G K l.toArray l.length rest d fr s z) = dHeavy2 P G o b done fr (addMade b s.h M) ⟨M, rs⟩ (fun fr s z => natC (Nat.lor done (2 ^ i)) fun d => drawOps P G K l.toArray l.length rest d fr s z) (heavy P K fr (keyOf fr i) (s.withH (addMade b s.h M)) o.op) := by
        unfold dHeavy
        split
        · rename_i h0; exact absurd h0 (hr _ _)
        · rw [St.withH_eq]
      rw [e3, h1]
      simp only [dHeavy2]
      refine wr_douts (dst := o.dst) (k := fun fr' s' => readsOk P G fr s'.h M (readsLeft b rs) = true ∧ asideOk (addMade b s.h M) s'.h M = true ∧ DG P G K l Q (rest.map fun e => (e.1, e.2.1)) fr' s' M rs) ?_ hbk
      rintro v s' fr' hp ⟨h2, h3, hw⟩
      simp only [h2, h3, hp, putK, natC_eq]
      exact dg_sound rfl hl' hw
section
variable {S : FuncId → List AV → St → Out → Prop} {l : List Oper} {j b : Nat} {js : List (Nat × Nat)} {fr fr' : Fr} {s s' : St} {M : Made} {rs : Rds} {o : Oper} {v : AV} {f : FuncId} {args : List AV}
theorem r_drawG {id : Nat} {F lc n : Nat} {t : T AV} {df : List (AV × List AV)} {rc : Rc} (hj : (theOrder l).map (fun e => (e.1, e.2.1)) = js) (hok : drawOk l (theOrder l) = true) (hk : lc + l.length ≤ 1267650600228229401496703205375)
    (h : DG P G K l Q js ⟨F, lc, n, t, df, rc⟩ s [] []) : WR (code P G K m (.region id l.toArray true) ⟨F, lc, n, t, df, rc⟩ s) Q := by
  have hkk : keysOk ⟨F, lc, n, t, df, rc⟩ l.length = true := by rw [keysOk_mk]; exact decide_eq_true hk
  rw [code]
  unfold region
  simp only [List.toList_toArray, hkk]
  unfold drawn
  simp only [List.toList_toArray, hok]
  exact dg_sound hj theOrder_at h
theorem g_end {F lc lc' n : Nat} {t : T AV} {df : List (AV × List AV)} {rc : Rc} (hl : lc + l.length = lc') (h : Q .normal ⟨F, lc', n, t, df, rc⟩ (s.withH (addAll s.h M))) : DG P G K l Q [] ⟨F, lc, n, t, df, rc⟩ s M rs := by
  show Q .normal (Fr.bump ⟨F, lc, n, t, df, rc⟩ l.length) _
  rw [bump_mk, hl]; exact h
theorem g_undef (ho : l[j]? = some o) (hw : wantedA fr l.toArray o = false) (hp : fr.put o.dst .undef = some fr') (hk : DG P G K l Q js fr' s M rs) : DG P G K l Q ((j, b) :: js) fr s M rs :=
  ⟨o, ho, .inl ⟨hw, fr', hp, hk⟩⟩
theorem g_pure (ho : l[j]? = some o) (hc : clsOf o.op = .pure) (hw : wantedA fr l.toArray o = true) (hv : pureOp P fr o.op = some v) (hp : fr.put o.dst v = some fr') (hk : DG P G K l Q js fr' s M rs) : DG P G K l Q ((j, b) :: js) fr s M rs :=
  ⟨o, ho, .inr (.inl ⟨hw, hc, v, fr', hv, hp, hk⟩)⟩
theorem g_read (ho : l[j]? = some o) (hc : clsOf o.op = .read) (hw : wantedA fr l.toArray o = true) (hv : readOp P G fr (addMade b s.h M) o.op = some v) (hp : fr.put o.dst v = some fr') (hk : DG P G K l Q js fr' s M ((j, b, o.op, v) :: rs)) : DG P G K l Q ((j, b) :: js) fr s M rs :=
  ⟨o, ho, .inr (.inr (.inl ⟨hw, hc, v, fr', hv, hp, hk⟩))⟩
theorem g_alloc {blk : AB} {key : Nat} (ho : l[j]? = some o) (hc : clsOf o.op = .alloc) (hw : wantedA fr l.toArray o = true) (hke : keyOf fr j = key) (hv : allocOp P fr key o.op = some (v, blk)) (hn : hget s.h key = none) (hp : fr.put o.dst v = some fr') (hk : DG P G K l Q js fr' s ((j, key, blk) :: M) rs) : DG P G K l Q ((j, b) :: js) fr s M rs := by
  subst hke
  exact ⟨o, ho, .inr (.inr (.inr (.inl ⟨hw, hc, v, blk, fr', hv, hn, hp, hk⟩)))⟩
def notRng : Op → Bool
  | .range .. => false
  | _ => true
theorem g_act (ho : l[j]? = some o) (hc : clsOf o.op = .heavy) (hr : notRng o.op = true) (hw : wantedA fr l.toArray o = true) (hv : heavy P K fr (keyOf fr j) (s.withH (addMade b s.h M)) o.op = some [.val v s']) (hp : fr.put o.dst v = some fr')
    (h1 : readsOk P G fr s'.h M (readsLeft b rs) = true) (h2 : asideOk (addMade b s.h M) s'.h M = true) (hk : DG P G K l Q js fr' s' M rs) : DG P G K l Q ((j, b) :: js) fr s M rs :=
  ⟨o, ho, .inr (.inr (.inr (.inr ⟨hw, hc, fun t x e => (by rw [e] at hr; cases hr), _, hv, fun x hx => by cases List.mem_singleton.1 hx; exact ⟨fr', hp, h1, h2, hk⟩⟩)))⟩
end
theorem sndQ_wf {f : FuncId} {args : List AV} {s : St} {Q : Out → Prop} (h : Wf s → SndQ P G f args s Q) : SndQ P G f args s Q := by
  by_cases hw : Wf s
  · exact h hw
  · exact ⟨[], snd_wf fun h1 => absurd h1 hw, by simp⟩
/-! ### a clean memory: nothing at the frame's own names -/
theorem sweep_low {h : Heap} {F : Nat} : Low F h (sweep h F) := fun i hi => by rw [hget_sweep, if_pos hi]
theorem sndQ_clean {f : FuncId} {args : List AV} {h : Heap} {F : Nat} {Q : Out → Prop} (hk : ∀ h0, Wf ⟨h0, F⟩ → Low F h h0 → (∀ i, ky F 0 ≤ i → hget h0 i = none) → SndQ P G f args ⟨h0, F⟩ Q) : SndQ P G f args ⟨h, F⟩ Q := by
  by_cases hw : Wf ⟨h, F⟩
  · have hal := alike_sweep hw
    have hw0 : Wf ⟨sweep h F, F⟩ := by
      intro i ab hi hd
      simp only at hi
      rw [hget_sweep] at hi
      split at hi
      · assumption
      · cases hi
    obtain ⟨outs, h1, h2⟩ := hk (sweep h F) hw0 sweep_low fun i hi => by rw [hget_sweep, if_neg (by omega)]
    refine ⟨outs, ?_, h2⟩
    intro base ρ w vs rv rm
    have := h1 base ρ w vs rv (hal.rm rm)
    refine this.mono ?_
    rintro e w' ⟨ρ', ⟨v, s', u, h3, h4, h5, h6⟩ | ⟨v, s', u, h3, h4, h5, h6⟩⟩
    · exact ⟨ρ', .inl ⟨v, s', u, h3, h4, h5, hal.symm.adv (fun _ _ _ => Iff.rfl) h6⟩⟩
    · exact ⟨ρ', .inr ⟨v, s', u, h3, h4, h5, hal.symm.adv (fun _ _ _ => Iff.rfl) h6⟩⟩
  · exact ⟨[], snd_wf fun h1 => absurd h1 hw, by simp⟩
end Go.Ai

/-! Rings and orders of edges: the searches, the marks and the counts tell the same. -/
namespace Go.Ai
open Go
/-! ### edges -/
def okE (n : Nat) (e : Int × Int) : Prop := 0 ≤ e.1 ∧ e.1 < n ∧ 0 ≤ e.2 ∧ e.2 < n
/-! ### the lists of a graph -/
noncomputable def outs (n : Nat) (E : List (Int × Int)) (u : Nat) : List Int := (E.filter fun e => dec (okE n e ∧ e.1 = u)).map (·.2)
/-! ### what is to be looked at yet -/
def rest : List Bool → List (List Int) → Nat
  | b :: bs, g :: gs => (if b = true then 0 else g.length) + rest bs gs
  | _, _ => 0
/-! ### the search for a ring -/
/-! ### the marks -/
/-! ### the order -/
end Go.Ai

/-! Rows of single cells; what a drawn region asks of its numbers. -/
namespace Go.Ai
open Go
variable {P : Program} {G : Glob}
noncomputable def aRow (xs : List AV) : AB := mkRow xs 1
theorem wr_a {h : Heap} {id : Nat} {xs : List AV} {j : Nat} {v : AV} (hj : j < xs.length) (hc : isCell v = true) : wrAB h id (some (aRow xs)) (j * 1) [v] = some (hset h id (aRow (xs.set j v))) := by
  rw [aRow, wrAB_row, if_pos ⟨by simp only [List.length_cons, List.length_nil]; omega, by simp [allCell, hc]⟩, Nat.mul_one]
  simp only [ovr]
  rfl
theorem repl_one (x : AV) (n : Nat) : repl [x] n = List.replicate n x := by
  induction n with
  | zero => rfl
  | succ n ih => rw [repl, ih]; rfl
theorem nMS_a {e : TypeId} {by' key n : Nat} {z : AV} (hs : sizeT P e = some 1) (hb : bytesT P e = some by') (hz : zeroT P e = some z) (hzc : z.cells = [z]) (hn : by' * n ≤ 1073741824) (hn2 : n ≤ 1073741824) (htg : tagA P e = 0 := by kernel_rfl) :
    nMS P key (some (.slice e)) (some (.int .i64 (n : Int))) (some (.int .i64 (n : Int))) = some (.slice key 0 0 n (some n), aRow (List.replicate n z)) := by
  have e1 : Nat.ble n n = true := Nat.ble_eq_true_of_le (Nat.le_refl _)
  have e2 : Nat.ble (by' * n) 1073741824 = true := Nat.ble_eq_true_of_le hn
  have e3 : Nat.ble n 1073741824 = true := Nat.ble_eq_true_of_le hn2
  have e4 : Nat.blt 0 1 = true := rfl
  have e5 : Nat.beq 1 1 = true := rfl
  simp only [nMS, nMS1, nMS2, natOf_c, hs, hb, hz, hzc, e1, e2, e3, e4, List.length_cons, List.length_nil, Nat.zero_add, e5, Bool.and_self, htg, rowT_mk, mkRowT_0, repl_one]
  rfl
/-! ### drawn regions -/
theorem addMade_nil (b : Nat) (h : Heap) : addMade b h [] = h := rfl
noncomputable def mad1 (t : Bool) (o : Option AB) (x y : Heap) : Heap := match t with
  | true => match o with
    | none => x
    | some _ => y
  | false => y
theorem mad1_t (x y : Heap) : mad1 true none x y = x := rfl
theorem addAll_nil (h : Heap) : addAll h [] = h := rfl
theorem addAll_cons (h : Heap) (j k : Nat) (blk : AB) (r : Made) : addAll h ((j, k, blk) :: r) = mad1 true (hget h k) (addAll (hset h k blk) r) (addAll h r) := by
  simp only [addAll, hsetC_eq]
  cases hget h k <;> rfl
theorem readsLeft_nil (b : Nat) : readsLeft b [] = [] := rfl
noncomputable def rdl1 (t : Bool) (x : Nat × Op × AV) (r : List (Nat × Op × AV)) : List (Nat × Op × AV) := match t with
  | true => r
  | false => x :: r
theorem readsLeft_cons (b r b' : Nat) (op : Op) (v : AV) (rest : Rds) : readsLeft b ((r, b', op, v) :: rest) = rdl1 (b.testBit r) (b', op, v) (readsLeft b rest) := by
  simp only [readsLeft]
  cases b.testBit r <;> rfl
theorem rdl1_t (x : Nat × Op × AV) (r : List (Nat × Op × AV)) : rdl1 true x r = r := rfl
theorem rdl1_f (x : Nat × Op × AV) (r : List (Nat × Op × AV)) : rdl1 false x r = x :: r := rfl
theorem readsOk_nil (fr : Fr) (h : Heap) (M : Made) : readsOk P G fr h M [] = true := rfl
noncomputable def rok1 (o : Option AV) (v : AV) (r : Bool) : Bool := match o with
  | some u => avEq u v && r
  | none => false
theorem readsOk_cons (fr : Fr) (h : Heap) (M : Made) (b : Nat) (op : Op) (v : AV) (rest : List (Nat × Op × AV)) : readsOk P G fr h M ((b, op, v) :: rest) = rok1 (readOp P G fr (addMade b h M) op) v (readsOk P G fr h M rest) := by
  simp only [readsOk, rok1]
  cases readOp P G fr (addMade b h M) op with
  | none => rfl
  | some u => simp only; cases avEq u v <;> rfl
theorem rok1_s (u v : AV) (r : Bool) : rok1 (some u) v r = (avEq u v && r) := rfl
theorem asideOk_nil (h h' : Heap) : asideOk h h' [] = true := rfl
/-! ### edges -/
/-! ### lists of lists between two frames -/
section
variable {A B : Nat} {h h1 : Heap} {ks : List CK} {a : AV} {LL : List (List (List AV))}
end
end Go.Ai

namespace Go.Proofs.YtfhgiadogeephaaGreatDoor
open Go Go.Ai
set_option maxRecDepth 100000

theorem bRowT_inj {t : TypeId} {p buf p' buf' : AV} (e : bRowT t p buf = bRowT t p' buf') : p = p' ∧ buf = buf' := by
  have h0 := rd_bld0 (tB := t) (p := p) (buf := buf)
  have h1 := rd_bld1 (tB := t) (p := p) (buf := buf)
  rw [e, rd_bld0] at h0
  rw [e, rd_bld1] at h1
  cases h0; cases h1; exact ⟨rfl, rfl⟩
theorem ccQ (h : Heap) (F b A : Nat) (p buf : AV) (hg : hget h b = some (bRowT 139 p buf)) (hp : p = .nilp ∨ p = .ptr b 0) : SndQ Tryz.prog GL 111 [.ptr b 0] ⟨h, F⟩ (ST A 111 [.ptr b 0] ⟨h, F⟩) := by
  rcases hp with rfl | rfl
  · refine ⟨_, snd_ccFresh noNum Tryz.func111 rfl ccF hg, fun o ho => ?_⟩
    obtain rfl := List.mem_singleton.1 ho
    intro p' buf' hg' _
    obtain ⟨rfl, rfl⟩ := bRowT_inj (Option.some.inj (hg.symm.trans hg'))
    exact ⟨_, rfl, by rw [hget_hset, if_pos rfl], fun i hi => by rw [hget_hset, if_neg hi]⟩
  · refine ⟨_, snd_ccUsed noNum Tryz.func111 rfl ccU hg, fun o ho => ?_⟩
    obtain rfl := List.mem_singleton.1 ho
    intro p' buf' hg' _
    obtain ⟨rfl, rfl⟩ := bRowT_inj (Option.some.inj (hg.symm.trans hg'))
    exact ⟨_, rfl, hg, fun _ _ => rfl⟩
theorem Buf.move {h h' : Heap} {e A B : Nat} {buf : AV} {l : List UInt8} (o : Buf Tryz.prog h e A B buf l) (hg : ∀ i, ky A 0 ≤ i → i < ky B 0 → hget h' i = hget h i) : Buf Tryz.prog h' e A B buf l := by
  rcases o with h0 | ⟨hp, k, h1, h2, h3, h4⟩
  · exact .inl h0
  · exact .inr ⟨hp, k, h1, (hg k h3 h4).trans h2, h3, h4⟩
theorem ky_in {F c : Nat} (hc : c ≤ 1267650600228229401496703205375) : ky F 0 ≤ ky F c ∧ ky F c < ky (F + 1) 0 := ⟨ky_le F c, ky_next F c hc⟩
set_option maxHeartbeats 4000000 in
theorem wstr (h : Heap) (F b : Nat) (x : List UInt8) (l : List UInt8) (A B : Nat) (hB : Bld Tryz.prog h 139 5 b A B l) (hbA : b < ky A 0) (hAB : A ≤ B) (hBF : B ≤ F) (hlen : l.length + x.length ≤ 400000000) :
    SndQ Tryz.prog GL 60 [.ptr b 0, .str x] ⟨h, F⟩ (fun o => ∃ h', o = .val (.tup [.int .i64 (x.length : Int), .nili]) ⟨h', F + 1⟩ ∧ Bld Tryz.prog h' 139 5 b A (F + 1) (l ++ x) ∧ But b A (F + 1) h h') := by
  obtain ⟨p, buf, hg, hp, hbuf⟩ := hB
  refine sndQ_body (K := (KT (ST A))) kt_ok mixed noNum (m := 0) Tryz.func60 ?_
  generalize hQ : retQ _ _ _ _ _ _ = Q0
  refine body_go (c := Tryz.f60.body.getD .skip) (n := 19) rfl rfl (by simp only [↓reduceIte, T.setList, T.set_e, T.set_n, Nat.reduceDiv, Nat.reduceMod, Nat.reduceEqDiff, Nat.zero_add] <;> rfl) ?_
  simp only [Tryz.f60, Option.getD_some]
  repeat' (first | with_reducible (first | refine r_seq ?_ | refine r_next ?_ | refine r_block ?_ | refine r_seq_exit ?_ | refine r_seq_ret ?_ | refine r_blk_n ?_ | refine r_blk_ret ?_ | refine r_blk_hit ?_ | refine r_blk_miss rfl ?_ | refine r_skip ?_ | refine r_exit ?_ | refine r_ret ?_ | refine r_rq_exit ?_ | refine r_rq_ret ?_) | ((with_reducible apply r_regA); (focus (exact sd2)); (focus (exact sd1))) | ((with_reducible refine r_reg (List.toList_toArray) ?_ ?_); focus (exact sd1)) | ((with_reducible apply r_end); focus (exact sd4)) | ((with_reducible (first | apply r_move | apply r_assign)); (focus (exact sd3)); (focus (exact sd7))) | ((with_reducible apply r_condT); (focus (exact sd3))) | ((with_reducible (first | apply r_any | apply r_cond)); focus (simp only [↓reduceIte, clsOf, clsCall, Fr.ev, evs, ofV, ofA, ofS, put_mk, pureOp, Nat.reduceLT, Nat.reduceEqDiff, Nat.reduceSub, callTo_s, heavyCall, target, List.nil_append, List.append_nil, stepOp, stHeavy, stV_mk, T.get_n, T.set_n, T.set_e, Nat.reduceDiv, Nat.reduceMod, stepAny, wantedA_none] <;> rfl)) | (with_reducible rw [ifQ_t]) | (with_reducible rw [ifQ_f]) | (with_reducible refine ifQ_intro ?_ ?_ <;> intro hb))
  refine r_callC (S := ST A) (f := 111) (by first | rfl | (simp only [wantedA_none, Tget_set])) (by simp only [callOuts, callTo_s, target, evs, Fr.ev, Tget_set, ↓reduceIte, List.nil_append, List.append_nil]; exact kc_miss rfl) ?_ ?_
  · exact ccQ _ _ _ _ p buf hg hp
  intro o ho
  obtain ⟨h2, rfl, g2, k2⟩ := ho p buf hg hp
  refine ⟨_, by simp only [put_mk, Nat.reduceLT, ↓reduceIte] <;> rfl, ?_⟩
  have hbuf2 := Buf.move (h' := h2) hbuf fun i hi hi2 => k2 i (by omega)
  have hAF : ky A 0 ≤ ky F 0 := ky_mono (by omega)
  obtain ⟨buf', h3, ap, hcell, k3, hbuf3⟩ := app_buf (P := Tryz.prog) (t := 22) (t2 := 9) (e := 5) (key := ky F 10) (f := F + 1) (B' := F + 1) (h := h2) (b := .str x) Tryz.underlying22 Tryz.underlying9 (.inl rfl) sz5 by5 zo5 (src_str x) hlen (by omega) hbuf2 (by have := (ky_in (F := F) (c := 10) (by decide)).1; omega) (ky_in (by decide)).2 (by omega)
  have hAF1 : ky A 0 ≤ ky (F + 1) 0 := ky_mono (by omega)
  have g3 : hget h3 b = some (bRowT 139 (.ptr b 0) buf) := by rw [k3 b (.inl hbA)]; exact g2
  have hsh : buf' = .nils ∨ ∃ k, buf' = .slice k 0 0 (l ++ x).length none := by
    rcases hbuf3 with ⟨h0, _⟩ | ⟨_, k, h0, _⟩
    · exact .inl h0
    · exact .inr ⟨k, h0⟩
  rcases hsh with rfl | ⟨kb, rfl⟩
  all_goals
    repeat' (first | with_reducible (first | refine r_seq ?_ | refine r_next ?_ | refine r_block ?_ | refine r_seq_exit ?_ | refine r_seq_ret ?_ | refine r_blk_n ?_ | refine r_blk_ret ?_ | refine r_blk_hit ?_ | refine r_blk_miss rfl ?_ | refine r_skip ?_ | refine r_exit ?_ | refine r_ret ?_ | refine r_rq_exit ?_ | refine r_rq_ret ?_) | ((with_reducible apply r_regA); (focus (exact sd2)); (focus (exact sd1))) | ((with_reducible refine r_reg (List.toList_toArray) ?_ ?_); focus (exact sd1)) | ((with_reducible apply r_end); focus (exact sd4)) | ((with_reducible (first | apply r_move | apply r_assign)); (focus (exact sd3)); (focus (exact sd7))) | ((with_reducible apply r_condT); (focus (exact sd3))) | ((with_reducible (first | apply r_any | apply r_cond)); focus (simp only [↓reduceIte, clsOf, clsCall, Fr.ev, ofV, ofA, ofS, AV.cells, put_mk, put_none, keyOf_mk, pureOp, readOp, pFA, pFA1, pFA2, rLd, oneCell_one, List.length_cons, List.length_nil, List.getElem?_cons_zero, List.getElem?_cons_succ, Nat.zero_add, Nat.reduceAdd, Nat.reduceLT, Nat.reduceEqDiff, Nat.reduceSub, Nat.add_eq, loadA_w, loadW_s, aSt_w, stOut_s, heavyCall, actOp, pNil, stepOp, stHeavy, stV_mk, stO_mk, T.get_n, T.set_n, T.set_e, Nat.reduceDiv, Nat.reduceMod, Tryz.underlying9, sz22, ag22, Tryz.underlying139, stepAny, wantedA_none, rCall, rLen, rLen1_str, lenA, g2, g3, rd_bld1, wr_bld1 hcell, aBuiltin, aApp, aApp2, outOf, ap] <;> rfl)) | (with_reducible rw [ifQ_t]) | (with_reducible rw [ifQ_f]) | (with_reducible refine ifQ_intro ?_ ?_ <;> intro hb))
    subst hQ
    refine ret_back (by simp only [Tryz.results60, resultOf, resultsA, resultA, List.toList_toArray, Fr.ev, T.get_n, Nat.reduceDiv, Nat.reduceMod, Nat.reduceSub, Nat.reduceEqDiff, ↓reduceIte] <;> rfl) ?_
    refine ⟨_, rfl, ⟨.ptr b 0, _, by rw [hget_hset, if_pos rfl], .inr rfl, Buf.move hbuf3 fun i hi hi2 => by rw [hget_hset, if_neg (by omega)]⟩, fun i hi hi2 => ?_⟩
    rw [hget_hset, if_neg hi, k3 i hi2, k2 i hi]
set_option maxHeartbeats 4000000 in
theorem wbyt (h : Heap) (F b : Nat) (l : List UInt8) (A B : Nat) (hB : Bld Tryz.prog h 139 5 b A B l) (hbA : b < ky A 0) (hAB : A ≤ B) (hBF : B ≤ F) (hlen : l.length + 1 ≤ 400000000) :
    SndQ Tryz.prog GL 62 [.ptr b 0, .int .u8 10] ⟨h, F⟩ (fun o => ∃ h', o = .val .nili ⟨h', F + 1⟩ ∧ Bld Tryz.prog h' 139 5 b A (F + 1) (l ++ [10]) ∧ But b A (F + 1) h h') := by
  obtain ⟨p, buf, hg, hp, hbuf⟩ := hB
  have nb := fun (key : Nat) (c : Int) => nBS_by (P := Tryz.prog) (key := key) (c := c) sz5 zr5
  refine sndQ_body (K := (KT (ST A))) kt_ok mixed noNum (m := 0) Tryz.func62 ?_
  generalize hQ : retQ _ _ _ _ _ _ = Q0
  refine body_go (c := Tryz.f62.body.getD .skip) (n := 17) rfl rfl (by simp only [↓reduceIte, T.setList, T.set_e, T.set_n, Nat.reduceDiv, Nat.reduceMod, Nat.reduceEqDiff, Nat.zero_add] <;> rfl) ?_
  simp only [Tryz.f62, Option.getD_some]
  repeat' (first | with_reducible (first | refine r_seq ?_ | refine r_next ?_ | refine r_block ?_ | refine r_seq_exit ?_ | refine r_seq_ret ?_ | refine r_blk_n ?_ | refine r_blk_ret ?_ | refine r_blk_hit ?_ | refine r_blk_miss rfl ?_ | refine r_skip ?_ | refine r_exit ?_ | refine r_ret ?_ | refine r_rq_exit ?_ | refine r_rq_ret ?_) | ((with_reducible apply r_regA); (focus (exact sd2)); (focus (exact sd1))) | ((with_reducible refine r_reg (List.toList_toArray) ?_ ?_); focus (exact sd1)) | ((with_reducible apply r_end); focus (exact sd4)) | ((with_reducible (first | apply r_move | apply r_assign)); (focus (exact sd3)); (focus (exact sd7))) | ((with_reducible apply r_condT); (focus (exact sd3))) | ((with_reducible (first | apply r_any | apply r_cond)); focus (simp only [↓reduceIte, clsOf, clsCall, Fr.ev, evs, ofV, ofA, ofS, put_mk, pureOp, Nat.reduceLT, Nat.reduceEqDiff, Nat.reduceSub, callTo_s, heavyCall, target, List.nil_append, List.append_nil, stepOp, stHeavy, stV_mk, T.get_n, T.set_n, T.set_e, Nat.reduceDiv, Nat.reduceMod, stepAny, wantedA_none] <;> rfl)) | (with_reducible rw [ifQ_t]) | (with_reducible rw [ifQ_f]) | (with_reducible refine ifQ_intro ?_ ?_ <;> intro hb))
  refine r_callC (S := ST A) (f := 111) (by first | rfl | (simp only [wantedA_none, Tget_set])) (by simp only [callOuts, callTo_s, target, evs, Fr.ev, Tget_set, ↓reduceIte, List.nil_append, List.append_nil]; exact kc_miss rfl) ?_ ?_
  · exact ccQ _ _ _ _ p buf hg hp
  intro o ho
  obtain ⟨h2, rfl, g2, k2⟩ := ho p buf hg hp
  refine ⟨_, by simp only [put_mk, Nat.reduceLT, ↓reduceIte] <;> rfl, ?_⟩
  have hAF : ky A 0 ≤ ky F 0 := ky_mono (by omega)
  have hAF1 : ky A 0 ≤ ky (F + 1) 0 := ky_mono (by omega)
  have hin9 := ky_in (F := F) (c := 9) (by decide)
  have hin10 := ky_in (F := F) (c := 10) (by decide)
  have hBF1 : ky B 0 ≤ ky F 0 := ky_mono hBF
  have hbuf2 := Buf.move (h' := hset h2 (ky F 9) (mkRowT (5 + 1) [.int .u8 10] 1)) hbuf fun i hi hi2 => by rw [hget_hset, if_neg (by omega)]; exact k2 i (by omega)
  obtain ⟨buf', h3, ap, hcell, k3, hbuf3⟩ := app_buf (P := Tryz.prog) (t := 22) (t2 := 22) (e := 5) (key := ky F 10) (f := F + 1) (B' := F + 1) (h := hset h2 (ky F 9) (mkRowT (5 + 1) [.int .u8 10] 1)) (b := .slice (ky F 9) 0 0 1 (some 1)) (x := [10]) Tryz.underlying22 Tryz.underlying22 (.inr ⟨_, rfl⟩) sz5 by5 zo5 (src_row (x := [10]) (tg := 5 + 1) (by rw [hget_hset, if_pos rfl]; rfl)) hlen (by omega) hbuf2 (by omega) hin10.2 (by omega)
  have g2b : hget (hset h2 (ky F 9) (mkRowT (5 + 1) [.int .u8 10] 1)) b = some (bRowT 139 (.ptr b 0) buf) := by rw [hget_hset, if_neg (by omega)]; exact g2
  have g3 : hget h3 b = some (bRowT 139 (.ptr b 0) buf) := by rw [k3 b (.inl hbA)]; exact g2b
  have hsh : buf' = .nils ∨ ∃ k, buf' = .slice k 0 0 (l ++ [10]).length none := by
    rcases hbuf3 with ⟨h0, _⟩ | ⟨_, k, h0, _⟩
    · exact .inl h0
    · exact .inr ⟨k, h0⟩
  rcases hsh with rfl | ⟨kb, rfl⟩
  all_goals
    repeat' (first | with_reducible (first | refine r_seq ?_ | refine r_next ?_ | refine r_block ?_ | refine r_seq_exit ?_ | refine r_seq_ret ?_ | refine r_blk_n ?_ | refine r_blk_ret ?_ | refine r_blk_hit ?_ | refine r_blk_miss rfl ?_ | refine r_skip ?_ | refine r_exit ?_ | refine r_ret ?_ | refine r_rq_exit ?_ | refine r_rq_ret ?_) | ((with_reducible apply r_regA); (focus (exact sd2)); (focus (exact sd1))) | ((with_reducible refine r_reg (List.toList_toArray) ?_ ?_); focus (exact sd1)) | ((with_reducible apply r_end); focus (exact sd4)) | ((with_reducible (first | apply r_move | apply r_assign)); (focus (exact sd3)); (focus (exact sd7))) | ((with_reducible apply r_condT); (focus (exact sd3))) | ((with_reducible (first | apply r_any | apply r_cond)); focus (simp only [↓reduceIte, clsOf, clsCall, newBlk, allocOp, Fr.ev, evParts, ofV, ofA, ofS, AV.cells, put_mk, put_none, upd_mk, keyOf_mk, pureOp, readOp, pFA, pFA1, pFA2, rLd, oneCell_one, List.length_cons, List.length_nil, List.getElem?_cons_zero, List.getElem?_cons_succ, Nat.zero_add, Nat.reduceAdd, Nat.reduceLT, Nat.reduceEqDiff, Nat.reduceSub, Nat.add_eq, loadA_w, loadW_s, aSt_w, stOut_s, heavyCall, actOp, pNil, stepOp, stHeavy, stV_mk, stB_mk, stO_mk, T.get_n, T.set_n, T.set_e, Nat.reduceDiv, Nat.reduceMod, sz22, ag22, Tryz.underlying22, Tryz.underlying139, stepAny, wantedA_none, g2, g3, rd_bld1, wr_bld1 hcell, nb, tA5, aBuiltin, aApp, aApp2, outOf, ap] <;> rfl)) | (with_reducible rw [ifQ_t]) | (with_reducible rw [ifQ_f]) | (with_reducible refine ifQ_intro ?_ ?_ <;> intro hb))
    subst hQ
    refine ret_back (by simp only [Tryz.results62, resultOf, resultsA, resultA, List.toList_toArray, Fr.ev, T.get_n, Nat.reduceDiv, Nat.reduceMod, Nat.reduceSub, Nat.reduceEqDiff, ↓reduceIte] <;> rfl) ?_
    refine ⟨_, rfl, ⟨.ptr b 0, _, by rw [hget_hset, if_pos rfl], .inr rfl, Buf.move hbuf3 fun i hi hi2 => by rw [hget_hset, if_neg (by omega)]⟩, fun i hi hi2 => ?_⟩
    rw [hget_hset, if_neg hi, k3 i hi2, hget_hset, if_neg (by omega), k2 i hi]
set_option maxHeartbeats 4000000 in
theorem strg (h : Heap) (F b : Nat) (l : List UInt8) (A B : Nat) (hB : Bld Tryz.prog h 139 5 b A B l) (hBF : B ≤ F) (hlen : l.length ≤ 400000000) :
    SndQ Tryz.prog GL 63 [.ptr b 0] ⟨h, F⟩ (fun o => ∃ h', o = .val (.str l) ⟨h', F + 1⟩ ∧ Low A h h') := by
  obtain ⟨p, buf, hg, hp, hbuf⟩ := hB
  rcases hbuf with ⟨rfl, rfl⟩ | ⟨hpos, k, rfl, hk, hk1, hk2⟩
  · refine sndQ_body (K := (KT (ST A))) kt_ok mixed noNum (m := 0) Tryz.func63 ?_
    generalize hQ : retQ _ _ _ _ _ _ = Q0
    refine body_go (c := Tryz.f63.body.getD .skip) (n := 14) rfl rfl (by simp only [↓reduceIte, T.setList, T.set_e] <;> rfl) ?_
    simp only [Tryz.f63, Option.getD_some]
    repeat' (first | with_reducible (first | refine r_seq ?_ | refine r_next ?_ | refine r_block ?_ | refine r_seq_exit ?_ | refine r_seq_ret ?_ | refine r_blk_n ?_ | refine r_blk_ret ?_ | refine r_blk_hit ?_ | refine r_blk_miss rfl ?_ | refine r_skip ?_ | refine r_exit ?_ | refine r_ret ?_ | refine r_rq_exit ?_ | refine r_rq_ret ?_) | ((with_reducible apply r_regA); (focus (exact sd2)); (focus (exact sd1))) | ((with_reducible refine r_reg (List.toList_toArray) ?_ ?_); focus (exact sd1)) | ((with_reducible apply (r_drawG (js := [(0, 0), (1, 1), (2, 3), (3, 7), (5, 0), (6, 32), (7, 96), (8, 224), (9, 480), (4, 15), (10, 1023), (11, 2047)]))); (focus kernel_rfl); (focus kernel_rfl); (focus (exact sd1))) | ((with_reducible apply g_end); (focus (simp only [List.length_cons, List.length_nil, Nat.reduceAdd, Nat.zero_add] <;> rfl)); simp only [withH_mk, addAll_nil, ↓reduceIte, withH_mk, Nat.reduceEqDiff, Nat.reduceSub, T.set_n, T.set_e, Nat.reduceDiv, Nat.reduceMod, addAll_nil]) | ((with_reducible apply g_undef); (focus rfl); (focus (simp only [↓reduceIte, Nat.reduceEqDiff, Nat.reduceSub, T.set_n, T.set_e, Nat.reduceDiv, Nat.reduceMod, wantedA_none] <;> rfl)); (focus (exact sd6))) | ((with_reducible apply g_pure); (focus rfl); (focus rfl); (focus rfl); (focus (simp only [↓reduceIte, Fr.ev, pureOp, pFA, pFA1, pFA2, List.getElem?_cons_zero, List.getElem?_cons_succ, Nat.zero_add, Nat.reduceEqDiff, Nat.reduceSub, Nat.add_eq, pNil, T.get_n, T.set_n, T.set_e, Nat.reduceDiv, Nat.reduceMod, sz22, Tryz.underlying139] <;> rfl)); (focus (exact sd6))) | ((with_reducible apply g_read); (focus rfl); (focus rfl); (focus rfl); (focus (simp only [↓reduceIte, Fr.ev, readOp, rLd, oneCell_one, List.getElem?_cons_zero, Nat.reduceEqDiff, Nat.reduceSub, loadA_w, loadW_s, T.get_n, T.set_n, T.set_e, Nat.reduceDiv, Nat.reduceMod, sz22, ag22, rCall, rLen, addMade_nil, hg, rd_bld1] <;> rfl)); (focus (exact sd6))) | ((with_reducible apply g_act); (focus rfl); (focus rfl); (focus rfl); (focus rfl); (focus (simp only [heavy, ↓reduceIte, Fr.ev, evs, withH_mk, Nat.reduceEqDiff, Nat.reduceSub, Nat.succ_eq_add_one, heavyCall, T.get_n, T.set_n, T.set_e, Nat.reduceDiv, Nat.reduceMod, addMade_nil, aBuiltin, aUSD, aUS] <;> rfl)); (focus (exact sd6)); (focus (simp only [↓reduceIte, Fr.ev, readOp, rLd, oneCell_one, List.getElem?_cons_zero, Nat.reduceEqDiff, Nat.reduceSub, loadA_w, loadW_s, decide_true, decide_false, T.get_n, T.set_n, T.set_e, Nat.reduceDiv, Nat.reduceMod, sz22, ag22, rCall, rLen, Nat.testBit_eq_decide_div_mod_eq, Nat.reducePow, addMade_nil, readsLeft_nil, readsLeft_cons, rdl1_t, rdl1_f, readsOk_nil, readsOk_cons, rok1_s, av_nils, Bool.and_self, hg, rd_bld1] <;> rfl)); (focus (simp only [addMade_nil, asideOk_nil] <;> rfl))) | ((with_reducible apply r_drawL); (focus kernel_rfl); (focus kernel_rfl); (focus (exact sd1))) | ((with_reducible apply r_end); focus (exact sd4)) | ((with_reducible (first | apply r_move | apply r_assign)); (focus (exact sd3)); (focus (exact sd7))) | ((with_reducible apply r_condT); (focus (exact sd3))) | ((with_reducible (first | apply r_any | apply r_cond)); focus (simp only [↓reduceIte, clsOf, Fr.ev, ofV, ofA, ofS, put_mk, pureOp, Nat.reduceLT, Nat.reduceEqDiff, Nat.reduceSub, stepOp, stV_mk, T.set_n, T.set_e, Nat.reduceDiv, Nat.reduceMod, stepAny, wantedA_none] <;> rfl)) | (with_reducible rw [ifQ_t]) | (with_reducible rw [ifQ_f]) | (with_reducible refine ifQ_intro ?_ ?_ <;> intro hb))
    subst hQ
    refine ret_back (by simp only [Tryz.results63, resultOf, resultsA, resultA, List.toList_toArray, Fr.ev, T.get_n, Nat.reduceDiv, Nat.reduceMod, Nat.reduceSub, Nat.reduceEqDiff, ↓reduceIte] <;> rfl) ?_
    exact ⟨_, rfl, Low.refl A h⟩
  · have us := us_row (P := Tryz.prog) (t1 := 226) (t2 := 3) (s := ⟨h, F + 1⟩) Tryz.underlying226 Tryz.underlying5 Tryz.underlying5 sz5 hk hpos (by omega)
    have hbl : Nat.blt 0 l.length = true := by rw [Nat.blt_eq]; exact hpos
    refine sndQ_body (K := (KT (ST A))) kt_ok mixed noNum (m := 0) Tryz.func63 ?_
    generalize hQ : retQ _ _ _ _ _ _ = Q0
    refine body_go (c := Tryz.f63.body.getD .skip) (n := 14) rfl rfl (by simp only [↓reduceIte, T.setList, T.set_e] <;> rfl) ?_
    simp only [Tryz.f63, Option.getD_some]
    repeat' (first | with_reducible (first | refine r_seq ?_ | refine r_next ?_ | refine r_block ?_ | refine r_seq_exit ?_ | refine r_seq_ret ?_ | refine r_blk_n ?_ | refine r_blk_ret ?_ | refine r_blk_hit ?_ | refine r_blk_miss rfl ?_ | refine r_skip ?_ | refine r_exit ?_ | refine r_ret ?_ | refine r_rq_exit ?_ | refine r_rq_ret ?_) | ((with_reducible apply r_regA); (focus (exact sd2)); (focus (exact sd1))) | ((with_reducible refine r_reg (List.toList_toArray) ?_ ?_); focus (exact sd1)) | ((with_reducible apply (r_drawG (js := [(0, 0), (1, 1), (2, 3), (3, 7), (5, 0), (6, 32), (7, 96), (8, 224), (9, 480), (4, 15), (10, 1023), (11, 2047)]))); (focus kernel_rfl); (focus kernel_rfl); (focus (exact sd1))) | ((with_reducible apply g_end); (focus (simp only [List.length_cons, List.length_nil, Nat.reduceAdd, Nat.zero_add] <;> rfl)); simp only [withH_mk, addAll_nil, ↓reduceIte, withH_mk, Nat.reduceEqDiff, Nat.reduceSub, T.set_n, T.set_e, Nat.reduceDiv, Nat.reduceMod, addAll_nil]) | ((with_reducible apply g_undef); (focus rfl); (focus (simp only [↓reduceIte, Nat.reduceEqDiff, Nat.reduceSub, T.set_n, T.set_e, Nat.reduceDiv, Nat.reduceMod, wantedA_none] <;> rfl)); (focus (exact sd6))) | ((with_reducible apply g_pure); (focus rfl); (focus rfl); (focus rfl); (focus (simp only [↓reduceIte, Fr.ev, pureOp, pFA, pFA1, pFA2, List.getElem?_cons_zero, List.getElem?_cons_succ, Nat.zero_add, Nat.reduceEqDiff, Nat.reduceSub, Nat.add_eq, pNil, T.get_n, T.set_n, T.set_e, Nat.reduceDiv, Nat.reduceMod, sz22, Tryz.underlying139] <;> rfl)); (focus (exact sd6))) | ((with_reducible apply g_read); (focus rfl); (focus rfl); (focus rfl); (focus (simp only [↓reduceIte, Fr.ev, readOp, rLd, oneCell_one, List.getElem?_cons_zero, Nat.reduceEqDiff, Nat.reduceSub, loadA_w, loadW_s, T.get_n, T.set_n, T.set_e, Nat.reduceDiv, Nat.reduceMod, sz22, ag22, Tryz.underlying22, rCall, rLen, rLen1_sl, lenA, addMade_nil, hg, rd_bld1] <;> rfl)); (focus (exact sd6))) | ((with_reducible apply g_act); (focus rfl); (focus rfl); (focus rfl); (focus rfl); (focus (simp only [heavy, ↓reduceIte, Fr.ev, evs, withH_mk, Nat.reduceEqDiff, Nat.reduceSub, heavyCall, T.get_n, T.set_n, T.set_e, Nat.reduceDiv, Nat.reduceMod, addMade_nil, aBuiltin, aUSD, hbl, us] <;> rfl)); (focus (exact sd6)); (focus (simp only [↓reduceIte, Fr.ev, readOp, rLd, oneCell_one, List.getElem?_cons_zero, Nat.reduceEqDiff, Nat.reduceSub, loadA_w, loadW_s, decide_true, decide_false, T.get_n, T.set_n, T.set_e, Nat.reduceDiv, Nat.reduceMod, sz22, ag22, Tryz.underlying22, rCall, rLen, rLen1_sl, lenA, Nat.testBit_eq_decide_div_mod_eq, Nat.reducePow, addMade_nil, readsLeft_nil, readsLeft_cons, rdl1_t, rdl1_f, readsOk_nil, readsOk_cons, rok1_s, av_int, av_sl, Bool.and_self, hg, rd_bld1] <;> rfl)); (focus (simp only [addMade_nil, asideOk_nil] <;> rfl))) | ((with_reducible apply r_drawL); (focus kernel_rfl); (focus kernel_rfl); (focus (exact sd1))) | ((with_reducible apply r_end); focus (exact sd4)) | ((with_reducible (first | apply r_move | apply r_assign)); (focus (exact sd3)); (focus (exact sd7))) | ((with_reducible apply r_condT); (focus (exact sd3))) | ((with_reducible (first | apply r_any | apply r_cond)); focus (simp only [↓reduceIte, clsOf, Fr.ev, ofV, ofA, ofS, put_mk, pureOp, Nat.reduceLT, Nat.reduceEqDiff, Nat.reduceSub, stepOp, stV_mk, T.set_n, T.set_e, Nat.reduceDiv, Nat.reduceMod, stepAny, wantedA_none] <;> rfl)) | (with_reducible rw [ifQ_t]) | (with_reducible rw [ifQ_f]) | (with_reducible refine ifQ_intro ?_ ?_ <;> intro hb))
    subst hQ
    refine ret_back (by simp only [Tryz.results63, resultOf, resultsA, resultA, List.toList_toArray, Fr.ev, T.get_n, Nat.reduceDiv, Nat.reduceMod, Nat.reduceSub, Nat.reduceEqDiff, ↓reduceIte] <;> rfl) ?_
    refine ⟨_, rfl, fun i hi => ?_⟩
    rw [hget_hset, if_neg (by omega)]

end Go.Proofs.YtfhgiadogeephaaGreatDoor

namespace Go.Proofs.YtfhgiadogeephaaGreatDoor
open Go Go.Ai
set_option maxRecDepth 100000

section
variable {S : FuncId → List AV → St → Out → Prop}
theorem val_at {h h1 : Heap} {F : Nat} {a : AV} {L : List (List AV)} (hw : Wf ⟨h, F⟩) (hl : LstP h ksV a L) (hs : SameH h h1) {i : Nat} (hi : i < L.length) : ∃ b o eo cap k n t, a = .slice b o eo L.length cap ∧ b < ky F 0 ∧ L[i]? = some [.int .i64 k, .int .i64 n, .str t] ∧ in64 k ∧ in64 n ∧ t.length ≤ maxLen ∧ rdAB (hget h1 b) (o + i * 3) 3 = some [.int .i64 k, .int .i64 n, .str t] := by
  obtain ⟨b, o, eo, cap, e, h0, _⟩ := hl.at hi
  obtain ⟨k, n, t, el, q1, q2, q3⟩ := cks_V64 (hl.ok hi)
  rw [el] at h0
  exact ⟨b, o, eo, cap, k, n, t, e, rd_low hw h0, by rw [List.getElem?_eq_getElem hi, el], q1, q2, q3, hs.rd h0⟩
theorem itoa_len {n : Int} (h : in64 n) : (Lib.itoa n).length ≤ 21 := Lib.itoa_length_le n h.1 h.2
theorem word_len (k : Int) : (wordL k).length ≤ 10 := by unfold wordL; split <;> decide
theorem printC_at {L : List (List AV)} {i : Nat} {k n : Int} {t : List UInt8} (hx : L[i]? = some [.int .i64 k, .int .i64 n, .str t]) (q c p z : Int) : printR q c p z (L.take (i + 1)) = printR q c p z (L.take i) ++ [32] ++ printV k n t := by
  rw [List.take_add_one, hx]; exact printR_snoc q c p z _ _
theorem printR_len {h : Heap} {a : AV} {L : List (List AV)} {q k c p : Int} (hl : LstP h ksV a L) (hq : in64 q) (hc : in64 c) (hp : in64 p) : ∀ i, i ≤ L.length → (printR q k c p (L.take i)).length ≤ 100 + 131 * i
  | 0, _ => by
    have h1 := itoa_len hq; have h2 := itoa_len hc; have h3 := itoa_len hp; have h4 := word_len k
    rw [List.take_zero, printR_nil]; simp only [List.length_append, List.length_cons, List.length_nil]; omega
  | i + 1, hi => by
    have ih := printR_len (k := k) hl hq hc hp i (by omega)
    obtain ⟨k2, n, t, el, _, q2, _⟩ := cks_V64 (hl.ok (show i < L.length by omega))
    have hx : L[i]? = some [.int .i64 k2, .int .i64 n, .str t] := by rw [List.getElem?_eq_getElem (by omega), el]
    have := printV_len (k := k2) (t := t) q2.1 q2.2 (itoa_len q2)
    rw [printC_at hx]; simp only [List.length_append, List.length_cons, List.length_nil]; omega
theorem k_join {h h1 : Heap} {F : Nat} {a : AV} {ss : List (List UInt8)} {sep : List UInt8} (hl : LstP h ksT a (tL ss)) (hp : 0 < ss.length) (hm : ss.length ≤ 100000000) (hj : (Lib.join ss sep).length ≤ 1000000000) (hs : SameH h h1) : CallF.fn (KT S) 113 [a, .str sep] ⟨h1, F⟩ = some [.val (.str (Lib.join ss sep)) ⟨h1, F⟩] :=
  kt_fn ((rfl : _ = spJn [a, .str sep] ⟨h1, F⟩).trans (by simp only [spJn, txtOf_eq (hl.same hs)])) (snd_join noNum Tryz.func113 rfl joinC (hl.same hs) hp hm hj)
theorem by9 : bytesT Tryz.prog 9 = some 16 := by kernel_rfl
theorem zo9 : zeroOk Tryz.prog 9 1 16 = true := by kernel_rfl
theorem nBS_s4 {key : Nat} {a b c d : List UInt8} : nBS Tryz.prog key 4 (some (.slice 9)) (some [(0, .str a), (1, .str b), (2, .str c), (3, .str d)]) = some (.slice key 0 0 4 (some 4), mkRow [.str a, .str b, .str c, .str d] 1) := by
  have tg : tagA Tryz.prog 9 = 0 := by kernel_rfl
  simp only [nBS, nBS2, sz9, zr9, repl, AV.cells, nBS3, rowT_mk, buildArr, tg, mkRowT_0]
  rfl
theorem nBS_s1 {key : Nat} {a : List UInt8} : nBS Tryz.prog key 1 (some (.slice 9)) (some [(0, .str a)]) = some (.slice key 0 0 1 (some 1), mkRow [.str a] 1) := by
  have tg : tagA Tryz.prog 9 = 0 := by kernel_rfl
  simp only [nBS, nBS2, sz9, zr9, repl, AV.cells, nBS3, rowT_mk, buildArr, tg, mkRowT_0]
  rfl
theorem src_one {h : Heap} {k : Nat} {s : List UInt8} (hg : hget h k = some (mkRow [.str s] 1)) : srcCells h 1 (.slice k 0 0 1 (some 1)) = some ((tL [s]).length, (tL [s]).flatten) := by
  simp only [srcCells, readCells_eq, hg, rdAB_row]; rfl
theorem tL_one (ss : List (List UInt8)) : ∀ x ∈ tL ss, x.length = 1 := fun x hx => by obtain ⟨s, _, rfl⟩ := List.mem_map.1 hx; rfl
theorem tL_app (a b : List (List UInt8)) : tL (a ++ b) = tL a ++ tL b := by simp [tL]
theorem own_lst {h : Heap} {F c : Nat} {l : AV} {ss : List (List UInt8)} (hO : OwnL h F c 1 l (tL ss)) (hm : ss.length ≤ 100000000) (hx : ∀ s ∈ ss, s.length ≤ maxLen) : LstP h ksT l (tL ss) := by
  have mxl : maxLen = 9223372036854775807 := by decide
  refine OwnL.lst (ks := ksT) hO (fun x hx2 => ?_) (by rw [tL_len]; omega)
  obtain ⟨s, hs, rfl⟩ := List.mem_map.1 hx2
  exact ⟨_, _, rfl, hx s hs, rfl⟩
set_option maxHeartbeats 4000000 in
theorem rprint (h : Heap) (F : Nat) (q k c p : Int) (a : AV) (L : List (List AV)) (hL : LstP h ksV a L) (hq : in64 q) (hc : in64 c) (hp : in64 p) (hlen : L.length ≤ 2000000) : Snd Tryz.prog GL 61 [.agg [.int .i64 q, .int .i64 k, .int .i64 c, .int .i64 p, a]] ⟨h, F⟩ [.val (.str (printR q k c p L)) ⟨h, F⟩] := by
  refine snd_val (by simp [Kin]) fun hw => ?_
  refine sndQ_clean fun h0 hw0 hlow hcl => ?_
  have hS0 := hlow.same hw
  replace hL := hL.same hS0
  have mxl : maxLen = 9223372036854775807 := by decide
  have lA := fun (h2 : Heap) => rLen1_L (h2 := h2) Tryz.underlying26 hL
  have avs := av_self_L hL
  refine sndQ_body (K := (KT S0)) kt_ok mixed noNum (m := L.length + 1) Tryz.func61 ?_
  generalize hQ : retQ _ _ _ _ _ _ = Q0
  refine body_go (c := Tryz.f61.body.getD .skip) (n := 40) rfl rfl (by simp only [↓reduceIte, T.setList, T.set_e] <;> rfl) ?_
  simp only [Tryz.f61, Option.getD_some]
  repeat' (first | with_reducible (first | refine r_seq ?_ | refine r_next ?_ | refine r_block ?_ | refine r_seq_exit ?_ | refine r_seq_ret ?_ | refine r_blk_n ?_ | refine r_blk_ret ?_ | refine r_blk_hit ?_ | refine r_blk_miss rfl ?_ | refine r_skip ?_ | refine r_exit ?_ | refine r_ret ?_ | refine r_rq_exit ?_ | refine r_rq_ret ?_) | ((with_reducible apply r_regA); (focus (exact sd2)); (focus (exact sd1))) | ((with_reducible refine r_reg (List.toList_toArray) ?_ ?_); focus (exact sd1)) | ((with_reducible apply (r_drawG (js := [(0, 0), (1, 1), (3, 0), (4, 8), (6, 0), (7, 64), (9, 0), (10, 512), (2, 3), (5, 31), (8, 255), (11, 2047), (12, 4095), (13, 8191)]))); (focus kernel_rfl); (focus kernel_rfl); (focus (exact sd1))) | ((with_reducible apply g_end); (focus (simp only [List.length_cons, List.length_nil, Nat.reduceAdd, Nat.zero_add] <;> rfl)); simp only [withH_mk, addAll_nil, addAll_cons, ↓reduceIte, withH_mk, ky_inj, hget_hset_ite, Nat.reduceAdd, Nat.reduceEqDiff, Nat.reduceSub, T.set_n, T.set_e, Nat.reduceDiv, Nat.reduceMod, mad1_t, addAll_nil, addAll_cons, hcl _ (ky_le F 14)]) | ((with_reducible apply g_undef); (focus rfl); (focus (simp only [↓reduceIte, Nat.reduceEqDiff, Nat.reduceSub, T.set_n, T.set_e, Nat.reduceDiv, Nat.reduceMod, wantedA_none] <;> rfl)); (focus (exact sd6))) | ((with_reducible apply g_pure); (focus rfl); (focus rfl); (focus rfl); (focus (simp only [↓reduceIte, Fr.ev, pureOp, pFA, pFA1, pFA2, List.getElem?_cons_zero, List.getElem?_cons_succ, Nat.zero_add, Nat.add_zero, Nat.reduceEqDiff, Nat.reduceSub, Nat.add_eq, T.get_n, T.set_n, T.set_e, Nat.reduceDiv, Nat.reduceMod, sz2, sz3, Tryz.underlying28] <;> rfl)); (focus (exact sd6))) | ((with_reducible apply g_read); (focus rfl); (focus rfl); (focus rfl); (focus (simp only [↓reduceIte, Fr.ev, readOp, rLd, rdAB_row, oneCell_one, hget_same, List.length_cons, List.length_nil, List.drop_zero, List.drop_succ_cons, List.take_succ_cons, List.take_zero, Nat.zero_add, Nat.reduceAdd, Nat.reduceLeDiff, Nat.reduceEqDiff, Nat.reduceSub, loadA_w, loadW_s, T.get_n, T.set_n, T.set_e, Nat.reduceDiv, Nat.reduceMod, sz2, ag2, sz3, ag3, addMade_nil] <;> rfl)); (focus (exact sd6))) | ((with_reducible apply g_alloc); (focus rfl); (focus rfl); (focus rfl); (focus (simp only [keyOf_mk] <;> rfl)); (focus (simp only [↓reduceIte, allocOp, Fr.ev, evParts, Nat.reduceAdd, Nat.reduceEqDiff, Nat.reduceSub, T.get_n, T.set_n, T.set_e, Nat.reduceDiv, Nat.reduceMod, Tryz.underlying68, nBS_s4] <;> rfl)); (focus (simp only [↓reduceIte, ky_inj, hget_hset_ite, Nat.reduceAdd, Nat.reduceEqDiff, hcl _ (ky_le F 14)])); (focus (exact sd6))) | ((with_reducible apply g_act); (focus rfl); (focus rfl); (focus rfl); (focus rfl); (focus (simp only [heavy, ↓reduceIte, Fr.ev, evs, withH_mk, Nat.reduceEqDiff, Nat.reduceSub, callTo_s, heavyCall, target, List.nil_append, List.append_nil, T.get_n, T.set_n, T.set_e, Nat.reduceDiv, Nat.reduceMod, addMade_nil, k_pdigits hq, k_pdigits hc, k_pdigits hp, k_pword] <;> rfl)); (focus (exact sd6)); (focus (simp only [↓reduceIte, Fr.ev, readOp, rLd, rdAB_row, oneCell_one, hget_same, List.length_cons, List.length_nil, List.drop_zero, List.drop_succ_cons, List.take_succ_cons, List.take_zero, Nat.zero_add, Nat.reduceAdd, Nat.reduceLeDiff, Nat.reduceEqDiff, Nat.reduceSub, loadA_w, loadW_s, decide_true, decide_false, T.get_n, T.set_n, T.set_e, Nat.reduceDiv, Nat.reduceMod, sz3, ag3, Nat.testBit_eq_decide_div_mod_eq, Nat.reducePow, addMade_nil, readsLeft_nil, readsLeft_cons, rdl1_t, rdl1_f, readsOk_nil, readsOk_cons, rok1_s, av_int, Bool.and_self] <;> rfl)); (focus (simp only [addMade_nil, asideOk_nil] <;> rfl))) | ((with_reducible apply r_drawL); (focus kernel_rfl); (focus kernel_rfl); (focus (exact sd1))) | ((with_reducible apply r_end); focus (exact sd4)) | ((with_reducible (first | apply r_move | apply r_assign)); (focus (exact sd3)); (focus (exact sd7))) | ((with_reducible apply r_condT); (focus (exact sd3))) | ((with_reducible (first | apply r_any | apply r_cond)); focus (simp only [↓reduceIte, clsOf, clsCall, newBlk, allocOp, Fr.ev, ofV, ofA, ofS, nVar, AV.cells, rowOf_mk, put_mk, upd_mk, keyOf_mk, ky_inj, pureOp, readOp, pFA, pFA1, pFA2, rLd, rdAB_row, oneCell_one, hget_same, hget_hset_ite, List.length_cons, List.length_nil, List.getElem?_cons_zero, List.getElem?_cons_succ, List.drop_zero, List.drop_succ_cons, List.take_succ_cons, List.take_zero, Nat.zero_add, Nat.add_zero, Nat.reduceAdd, Nat.reduceLT, Nat.reduceLeDiff, Nat.reduceEqDiff, Nat.reduceSub, Nat.add_eq, loadA_w, loadW_s, stepOp, stV_mk, stB_mk, T.get_n, T.set_n, T.set_e, Nat.reduceDiv, Nat.reduceMod, sz26, ag26, Tryz.underlying28, stepAny, wantedA_none, rCall, rLen, lA] <;> rfl)) | (with_reducible rw [ifQ_t]) | (with_reducible rw [ifQ_f]) | (with_reducible refine ifQ_intro ?_ ?_ <;> intro hb))
  have hall : ∀ s ∈ headR q k c p ++ L.map printC, s.length ≤ maxLen := fun s hs => by
    rcases List.mem_append.1 hs with hs | hs
    · have h1 := itoa_len hq; have h2 := itoa_len hc; have h3 := itoa_len hp; have h4 := word_len k
      simp only [headR, List.mem_cons, List.not_mem_nil, or_false] at hs
      rcases hs with rfl | rfl | rfl | rfl <;> omega
    · obtain ⟨x, hx, rfl⟩ := List.mem_map.1 hs
      obtain ⟨k2, n, t, rfl, _, q2, _⟩ := cks_V64 (hL.1 x hx)
      have := printV_len (k := k2) (t := t) q2.1 q2.2 (itoa_len q2)
      show (printV k2 n t).length ≤ maxLen
      omega
  refine r_loop (I := fun nn fr s1 => ∃ lc tt h1 i l co, fr = ⟨F, lc, 40, tt, [], .no⟩ ∧ s1 = ⟨h1, F + 1⟩ ∧ i ≤ L.length ∧ nn = L.length - i ∧ lc + nn * 1000 ≤ 100000000000000000000000000 ∧ 0 < co ∧ co < lc ∧ SameH h0 h1 ∧ tt.get 1 = some (.ptr (ky F 0) 0) ∧ tt.get 3 = some l ∧ tt.get 22 = some a ∧ tt.get 23 = some (.int .i64 (L.length : Int)) ∧ tt.get 24 = some (.int .i64 (i : Int)) ∧ hget h1 (ky F 0) = some (mkRow [.int .i64 q, .int .i64 k, .int .i64 c, .int .i64 p, a] 0) ∧ OwnL h1 F co 1 l (tL (headR q k c p ++ (L.take i).map printC))) (n := L.length) ?_ ?_ ?_
  · omega
  · refine ⟨_, _, _, 0, _, 14, rfl, rfl, Nat.zero_le _, (Nat.sub_zero _).symm, by omega, by omega, by omega, ?_, (by first | (simp only [T.get_n, Nat.reduceEqDiff, Nat.reduceDiv, Nat.reduceMod, ↓reduceIte] <;> rfl) | rfl), (by first | (simp only [T.get_n, Nat.reduceEqDiff, Nat.reduceDiv, Nat.reduceMod, ↓reduceIte] <;> rfl) | rfl), (by first | (simp only [T.get_n, Nat.reduceEqDiff, Nat.reduceDiv, Nat.reduceMod, Nat.reduceSub, ↓reduceIte] <;> rfl) | rfl), (by first | (simp only [T.get_n, Nat.reduceEqDiff, Nat.reduceDiv, Nat.reduceMod, Nat.reduceSub, ↓reduceIte] <;> rfl) | rfl), (by first | (simp only [T.get_n, Nat.reduceEqDiff, Nat.reduceDiv, Nat.reduceMod, Nat.reduceSub, ↓reduceIte] <;> rfl) | rfl), ?_, ?_⟩
    rotate_right
    · rw [List.take_zero, List.map_nil, List.append_nil]
      exact OwnL.new (L := tL (headR q k c p)) (tL_one _) (by rw [hget_hset, if_pos rfl]; rfl) (.inr rfl)
    · repeat (first | exact SameH.refl _ | refine SameH.hset hw0 ?_ (ky_le _ _))
    · rw [hget_hset, if_neg (by rw [ky_inj]; omega), hget_hset, if_pos rfl]
  rintro nn fr s1 ⟨lc, tt, h1, i, l, co, rfl, rfl, hi, rfl, hlc, hco0, hco, hS, u1, u3, u22, u23, u24, c0, hO⟩
  by_cases hil : i < L.length
  · obtain ⟨b0, o0, eo0, cap0, k2, n, t, rfl, hb0, hx, _, q2, htl, r0⟩ := val_at hw0 hL hS hil
    have hO1 := hO.move (h' := hset (hset (hset h1 (ky F (lc + 1 + 2)) (mkRow [.int .i64 0, .int .i64 0, .str []] 0)) (ky F (lc + 1 + 2)) (mkRow [.int .i64 k2, .int .i64 n, .str t] 0)) (ky F (lc + 12 + 2)) (mkRow [.str (printV k2 n t)] 1)) (by rw [hget_hset, if_neg (by rw [ky_inj]; omega), hget_hset, if_neg (by rw [ky_inj]; omega), hget_hset, if_neg (by rw [ky_inj]; omega)])
    have hln : (tL (headR q k c p ++ (L.take i).map printC)).length ≤ 5 + i := by rw [tL_len]; simp [headR]; omega
    have ap := app_own (t := 68) (t2 := 68) (key := ky F (lc + 12 + 3)) (s := ⟨hset (hset (hset h1 (ky F (lc + 1 + 2)) (mkRow [.int .i64 0, .int .i64 0, .str []] 0)) (ky F (lc + 1 + 2)) (mkRow [.int .i64 k2, .int .i64 n, .str t] 0)) (ky F (lc + 12 + 2)) (mkRow [.str (printV k2 n t)] 1), F + 1⟩) (b := .slice (ky F (lc + 12 + 2)) 0 0 1 (some 1)) (N := tL [printV k2 n t]) Tryz.underlying68 Tryz.underlying68 sz9 by9 zo9 hO1 (src_one (by rw [hget_hset, if_pos rfl])) (by simp [tL]) (by decide) (tL_one _) rfl (by simp only [tL_len, List.length_cons, List.length_nil] at hln ⊢; omega) (by decide)
    repeat' (first | with_reducible (first | refine r_seq ?_ | refine r_next ?_ | refine r_block ?_ | refine r_seq_exit ?_ | refine r_seq_ret ?_ | refine r_blk_n ?_ | refine r_blk_ret ?_ | refine r_blk_hit ?_ | refine r_blk_miss rfl ?_ | refine r_skip ?_ | refine r_exit ?_ | refine r_ret ?_ | refine r_rq_exit ?_ | refine r_rq_ret ?_) | ((with_reducible apply r_regA); (focus (exact sd2)); (focus (exact sd1))) | ((with_reducible refine r_reg (List.toList_toArray) ?_ ?_); focus (exact sd1)) | ((with_reducible apply r_drawL); (focus kernel_rfl); (focus kernel_rfl); (focus (exact sd1))) | ((with_reducible apply r_end); focus (exact sd4)) | ((with_reducible (first | apply r_move | apply r_assign)); (focus (simp only [Tget_set, Nat.reduceEqDiff, ↓reduceIte, u3] <;> rfl)); (focus (exact sd7))) | ((with_reducible apply r_condT); (focus (exact sd3))) | ((with_reducible (first | apply r_any | apply r_cond)); focus (simp only [↓reduceIte, clsOf, clsCall, newBlk, allocOp, Fr.ev, evs, evParts, ofV, ofA, ofS, nVar, AV.cells, rowOf_mk, put_mk, put_none, upd_mk, keyOf_mk, pureOp, readOp, rLd, rdAB_row, someAgg_s, hget_same, pBin, binA, intOp_lss, List.length_cons, List.length_nil, List.getElem?_cons_zero, List.getElem?_cons_succ, List.drop_zero, List.take_succ_cons, List.take_zero, Nat.zero_add, Nat.reduceAdd, Nat.reduceLT, Nat.reduceLeDiff, Nat.reduceEqDiff, and_self, loadA_w, loadW_a, aSt_w, stOut_s, wrAB_row, ovr, List.set_cons_zero, List.set_cons_succ, allCell, ic_i, ic_s, callTo_s, heavyCall, target, actOp, pEx, List.nil_append, List.append_nil, binA, stepOp, stHeavy, stV_mk, stB_mk, stO_mk, Tryz.underlying68, sz217, ag217, zr217, tg217, stepAny, wantedA_none, Tget_set, u22, u23, u24, lt_t hil, pIA_s Tryz.underlying26 sz217 hil, r0, k_pprint q2 htl, nBS_s1, aBuiltin, aApp, aApp2, outOf, ap, intOp_add (inR_succ hil hL.len)] <;> rfl)) | (with_reducible rw [ifQ_t]) | (with_reducible rw [ifQ_f]) | (with_reducible refine ifQ_intro ?_ ?_ <;> intro hb))
    refine r_rq_n (k := L.length - (i + 1)) (by omega) ⟨_, _, _, i + 1, _, lc + 12 + 3, rfl, rfl, by omega, rfl, by omega, by omega, by omega, ?_, (by first | (simp only [Tget_set, Nat.reduceEqDiff, ↓reduceIte, u1] <;> rfl) | rfl), (by first | (simp only [Tget_set, Nat.reduceEqDiff, ↓reduceIte] <;> rfl) | rfl), (by first | (simp only [Tget_set, Nat.reduceEqDiff, ↓reduceIte, u22] <;> rfl) | rfl), (by first | (simp only [Tget_set, Nat.reduceEqDiff, ↓reduceIte, u23] <;> rfl) | rfl), (by first | (simp only [Tget_set, ↓reduceIte] <;> rfl) | rfl), ?_, ?_⟩
    · refine SameH.hset hw0 (same_killQ hw0 hO1 ?_) (ky_le _ _)
      repeat (first | exact hS | refine SameH.hset hw0 ?_ (ky_le _ _))
    · rw [hget_hset, if_neg (by rw [ky_inj]; omega), killQ_get hO1 (by rw [Ne, ky_inj]; omega), hget_hset, if_neg (by rw [ky_inj]; omega), hget_hset, if_neg (by rw [ky_inj]; omega), hget_hset, if_neg (by rw [ky_inj]; omega)]; exact c0
    · have e : tL (headR q k c p ++ (L.take (i + 1)).map printC) = tL (headR q k c p ++ (L.take i).map printC) ++ tL [printV k2 n t] := by
        rw [List.take_add_one, hx, ← tL_app]; simp [printC]
      rw [e]
      exact OwnL.new (fun x hx => by rw [← tL_app] at hx; exact tL_one _ x hx) (by rw [hget_hset, if_pos rfl]) (.inl rfl)
  · have hend : i = L.length := by omega
    rw [hend, List.take_length] at hO
    have hj := printR_len (k := k) hL hq hc hp L.length (Nat.le_refl _)
    rw [List.take_length] at hj
    have hJ : (Lib.join (headR q k c p ++ L.map printC) [32]).length ≤ 1000000000 := by have : (printR q k c p L).length ≤ 100 + 131 * L.length := hj; unfold printR at this; omega
    have hOl := own_lst hO (by simp [headR]; omega) hall
    repeat' (first | with_reducible (first | refine r_seq ?_ | refine r_next ?_ | refine r_block ?_ | refine r_seq_exit ?_ | refine r_seq_ret ?_ | refine r_blk_n ?_ | refine r_blk_ret ?_ | refine r_blk_hit ?_ | refine r_blk_miss rfl ?_ | refine r_skip ?_ | refine r_exit ?_ | refine r_ret ?_ | refine r_rq_exit ?_ | refine r_rq_ret ?_) | ((with_reducible apply r_regA); (focus (exact sd2)); (focus (exact sd1))) | ((with_reducible refine r_reg (List.toList_toArray) ?_ ?_); focus (exact sd1)) | ((with_reducible apply r_drawL); (focus kernel_rfl); (focus kernel_rfl); (focus (exact sd1))) | ((with_reducible apply r_end); focus (exact sd4)) | ((with_reducible (first | apply r_move | apply r_assign)); (focus (simp only [Tget_set, Nat.reduceEqDiff, ↓reduceIte, u3] <;> rfl)); (focus (exact sd7))) | ((with_reducible apply r_condT); (focus (exact sd3))) | ((with_reducible (first | apply r_any | apply r_cond)); focus (simp only [↓reduceIte, clsOf, clsCall, Fr.ev, evs, ofV, ofA, ofS, put_mk, pureOp, pBin, binA, intOp_lss, Nat.reduceLT, callTo_s, heavyCall, target, List.nil_append, List.append_nil, binA, stepOp, stHeavy, stV_mk, stO_mk, stepAny, wantedA_none, Tget_set, u23, u24, lt_f hil, k_join (sep := [32]) hOl (by simp [headR]) (by simp [headR]; omega) hJ, sameT] <;> rfl)) | (with_reducible rw [ifQ_t]) | (with_reducible rw [ifQ_f]) | (with_reducible refine ifQ_intro ?_ ?_ <;> intro hb))
    subst hQ
    refine ret_back (by simp only [Tryz.results61, resultOf, resultsA, resultA, List.toList_toArray, Fr.ev, Tget_set, ↓reduceIte] <;> rfl) ?_
    exact ⟨_, rfl, SameH.trans hS0 hS⟩
theorem k_rprint {h h1 : Heap} {F : Nat} {q k c p : Int} {a : AV} {L : List (List AV)} (hL : LstP h ksV a L) (hq : in64 q) (hc : in64 c) (hp : in64 p) (hlen : L.length ≤ 2000000) (hs : SameH h h1) : CallF.fn (KT S) 61 [.agg [.int .i64 q, .int .i64 k, .int .i64 c, .int .i64 p, a]] ⟨h1, F⟩ = some [.val (.str (printR q k c p L)) ⟨h1, F⟩] :=
  kt_fn ((rfl : _ = spRp [.agg [.int .i64 q, .int .i64 k, .int .i64 c, .int .i64 p, a]] ⟨h1, F⟩).trans (by simp only [spRp, lstOf_same hL hs])) (rprint h1 F q k c p a L (hL.same hs) hq hc hp hlen)
set_option maxHeartbeats 4000000 in
theorem vrprint (h : Heap) (F : Nat) (q k c p : Int) (a : AV) (L : List (List AV)) (hL : LstP h ksV a L) (hq : in64 q) (hc : in64 c) (hp : in64 p) (hlen : L.length ≤ 2000000) : Snd Tryz.prog GL 65 [.agg [.int .i64 q, .int .i64 k, .int .i64 c, .int .i64 p, a]] ⟨h, F⟩ [.val (.str (printR q k c p L)) ⟨h, F⟩] := by
  refine snd_val (by simp [Kin]) fun hw => ?_
  have mxl : maxLen = 9223372036854775807 := by decide
  have lA := fun (h2 : Heap) => rLen1_L (h2 := h2) Tryz.underlying26 hL
  have g1 := itoa_len hq; have g2 := itoa_len hc; have g3 := itoa_len hp; have g4 := word_len k
  have s1 := strOp_add (a := Lib.itoa q) (b := [32]) (by simp only [List.length_cons, List.length_nil]; omega)
  have s2 := strOp_add (a := Lib.itoa q ++ [32]) (b := wordL k) (by simp only [List.length_append, List.length_cons, List.length_nil]; omega)
  have s3 := strOp_add (a := Lib.itoa q ++ [32] ++ wordL k) (b := [32]) (by simp only [List.length_append, List.length_cons, List.length_nil]; omega)
  have s4 := strOp_add (a := Lib.itoa q ++ [32] ++ wordL k ++ [32]) (b := Lib.itoa c) (by simp only [List.length_append, List.length_cons, List.length_nil]; omega)
  have s5 := strOp_add (a := Lib.itoa q ++ [32] ++ wordL k ++ [32] ++ Lib.itoa c) (b := [32]) (by simp only [List.length_append, List.length_cons, List.length_nil]; omega)
  have s6 := strOp_add (a := Lib.itoa q ++ [32] ++ wordL k ++ [32] ++ Lib.itoa c ++ [32]) (b := Lib.itoa p) (by simp only [List.length_append, List.length_cons, List.length_nil]; omega)
  refine sndQ_body (K := (KT S0)) kt_ok mixed noNum (m := L.length + 1) Tryz.func65 ?_
  generalize hQ : retQ _ _ _ _ _ _ = Q0
  refine body_go (c := Tryz.f65.body.getD .skip) (n := 46) rfl rfl (by simp only [↓reduceIte, T.setList, T.set_e] <;> rfl) ?_
  simp only [Tryz.f65, Option.getD_some]
  repeat' (first | with_reducible (first | refine r_seq ?_ | refine r_next ?_ | refine r_block ?_ | refine r_seq_exit ?_ | refine r_seq_ret ?_ | refine r_blk_n ?_ | refine r_blk_ret ?_ | refine r_blk_hit ?_ | refine r_blk_miss rfl ?_ | refine r_skip ?_ | refine r_exit ?_ | refine r_ret ?_ | refine r_rq_exit ?_ | refine r_rq_ret ?_) | ((with_reducible apply r_regA); (focus (exact sd2)); (focus (exact sd1))) | ((with_reducible refine r_reg (List.toList_toArray) ?_ ?_); focus (exact sd1)) | ((with_reducible apply (r_drawG (js := [(0, 0), (1, 1), (4, 0), (5, 16), (9, 0), (10, 512), (14, 0), (15, 16384), (2, 3), (3, 7), (6, 55), (7, 127), (8, 255), (11, 1655), (12, 4095), (13, 8191), (16, 52855), (17, 131071), (18, 262143)]))); (focus kernel_rfl); (focus kernel_rfl); (focus (exact sd1))) | ((with_reducible apply g_end); (focus (simp only [List.length_cons, List.length_nil, Nat.reduceAdd, Nat.zero_add] <;> rfl)); simp only [withH_mk, addAll_nil, ↓reduceIte, withH_mk, Nat.reduceEqDiff, Nat.reduceSub, T.set_n, T.set_e, Nat.reduceDiv, Nat.reduceMod, addAll_nil]) | ((with_reducible apply g_undef); (focus rfl); (focus (simp only [↓reduceIte, Nat.reduceEqDiff, Nat.reduceSub, T.set_n, T.set_e, Nat.reduceDiv, Nat.reduceMod, wantedA_none] <;> rfl)); (focus (exact sd6))) | ((with_reducible apply g_pure); (focus rfl); (focus rfl); (focus rfl); (focus (simp only [↓reduceIte, Fr.ev, ofV, ofA, ofS, pureOp, pFA, pFA1, pFA2, pBin, binA, List.getElem?_cons_zero, List.getElem?_cons_succ, Nat.zero_add, Nat.add_zero, Nat.reduceEqDiff, Nat.reduceSub, Nat.add_eq, binA, T.get_n, T.set_n, T.set_e, Nat.reduceDiv, Nat.reduceMod, sz2, sz3, Tryz.underlying28, s1, s2, s3, s4, s5, s6] <;> rfl)); (focus (exact sd6))) | ((with_reducible apply g_read); (focus rfl); (focus rfl); (focus rfl); (focus (simp only [↓reduceIte, Fr.ev, readOp, rLd, rdAB_row, oneCell_one, hget_same, List.length_cons, List.length_nil, List.drop_zero, List.drop_succ_cons, List.take_succ_cons, List.take_zero, Nat.zero_add, Nat.reduceAdd, Nat.reduceLeDiff, Nat.reduceEqDiff, Nat.reduceSub, loadA_w, loadW_s, T.get_n, T.set_n, T.set_e, Nat.reduceDiv, Nat.reduceMod, sz2, ag2, sz3, ag3, addMade_nil] <;> rfl)); (focus (exact sd6))) | ((with_reducible apply g_act); (focus rfl); (focus rfl); (focus rfl); (focus rfl); (focus (simp only [heavy, ↓reduceIte, Fr.ev, evs, withH_mk, Nat.reduceEqDiff, Nat.reduceSub, callTo_s, heavyCall, target, List.nil_append, List.append_nil, T.get_n, T.set_n, T.set_e, Nat.reduceDiv, Nat.reduceMod, addMade_nil, k_vdigits hq, k_vdigits hc, k_vdigits hp, k_rword] <;> rfl)); (focus (exact sd6)); (focus (simp only [↓reduceIte, Fr.ev, readOp, rLd, rdAB_row, oneCell_one, hget_same, List.length_cons, List.length_nil, List.drop_zero, List.drop_succ_cons, List.take_succ_cons, List.take_zero, Nat.zero_add, Nat.reduceAdd, Nat.reduceLeDiff, Nat.reduceEqDiff, Nat.reduceSub, loadA_w, loadW_s, decide_true, decide_false, T.get_n, T.set_n, T.set_e, Nat.reduceDiv, Nat.reduceMod, sz3, ag3, Nat.testBit_eq_decide_div_mod_eq, Nat.reducePow, addMade_nil, readsLeft_nil, readsLeft_cons, rdl1_t, rdl1_f, readsOk_nil, readsOk_cons, rok1_s, av_int, Bool.and_self] <;> rfl)); (focus (simp only [addMade_nil, asideOk_nil] <;> rfl))) | ((with_reducible apply r_drawL); (focus kernel_rfl); (focus kernel_rfl); (focus (exact sd1))) | ((with_reducible apply r_end); focus (exact sd4)) | ((with_reducible (first | apply r_move | apply r_assign)); (focus (exact sd3)); (focus (exact sd7))) | ((with_reducible apply r_condT); (focus (exact sd3))) | ((with_reducible (first | apply r_any | apply r_cond)); focus (simp only [↓reduceIte, clsOf, newBlk, allocOp, Fr.ev, ofV, ofA, ofS, nVar, AV.cells, rowOf_mk, put_mk, upd_mk, keyOf_mk, pureOp, Nat.add_zero, Nat.reduceLT, Nat.reduceEqDiff, Nat.reduceSub, stepOp, stV_mk, stB_mk, T.get_n, T.set_n, T.set_e, Nat.reduceDiv, Nat.reduceMod, stepAny, wantedA_none] <;> rfl)) | (with_reducible rw [ifQ_t]) | (with_reducible rw [ifQ_f]) | (with_reducible refine ifQ_intro ?_ ?_ <;> intro hb))
  refine r_loop (I := fun nn fr s1 => ∃ lc tt i, fr = ⟨F, lc, 46, tt, [], .no⟩ ∧ s1 = ⟨hset h (ky F 0) (mkRow [.int .i64 q, .int .i64 k, .int .i64 c, .int .i64 p, a] 0), F + 1⟩ ∧ i ≤ L.length ∧ nn = L.length - i ∧ lc + nn * 1000 ≤ 100000000000000000000000000 ∧ tt.get 1 = some (.ptr (ky F 0) 0) ∧ tt.get 3 = some (.str (printR q k c p (L.take i))) ∧ tt.get 4 = some (.int .i64 (i : Int))) (n := L.length) ?_ ?_ ?_
  · omega
  · exact ⟨_, _, 0, rfl, rfl, Nat.zero_le _, (Nat.sub_zero _).symm, by omega, (by first | (simp only [T.get_n, Nat.reduceEqDiff, Nat.reduceDiv, Nat.reduceMod, ↓reduceIte] <;> rfl) | rfl), (by first | (simp only [T.get_n, Nat.reduceEqDiff, Nat.reduceDiv, Nat.reduceMod, ↓reduceIte, List.take_zero, printR_nil] <;> rfl) | rfl), (by first | (simp only [T.get_n, Nat.reduceEqDiff, Nat.reduceDiv, Nat.reduceMod, Nat.reduceSub, ↓reduceIte] <;> rfl) | rfl)⟩
  rintro nn fr s1 ⟨lc, tt, i, rfl, rfl, hi, rfl, hlc, u1, u3, u4⟩
  have hpl := printR_len (k := k) hL hq hc hp i hi
  by_cases hil : i < L.length
  · obtain ⟨b0, o0, eo0, cap0, k2, n, t, rfl, hb0, hx, _, q2, htl, r0⟩ := val_at hw hL (SameH.refl h) hil
    have hv := printV_len (k := k2) (t := t) q2.1 q2.2 (itoa_len q2)
    have t1 := strOp_add (a := printR q k c p (L.take i)) (b := [32]) (by simp only [List.length_cons, List.length_nil]; omega)
    have t2 := strOp_add (a := printR q k c p (L.take i) ++ [32]) (b := printV k2 n t) (by simp only [List.length_append, List.length_cons, List.length_nil]; omega)
    rw [← printC_at hx] at t2
    repeat' (first | with_reducible (first | refine r_seq ?_ | refine r_next ?_ | refine r_block ?_ | refine r_seq_exit ?_ | refine r_seq_ret ?_ | refine r_blk_n ?_ | refine r_blk_ret ?_ | refine r_blk_hit ?_ | refine r_blk_miss rfl ?_ | refine r_skip ?_ | refine r_exit ?_ | refine r_ret ?_ | refine r_rq_exit ?_ | refine r_rq_ret ?_) | ((with_reducible apply r_regA); (focus (exact sd2)); (focus (exact sd1))) | ((with_reducible refine r_reg (List.toList_toArray) ?_ ?_); focus (exact sd1)) | ((with_reducible apply r_drawL); (focus kernel_rfl); (focus kernel_rfl); (focus (exact sd1))) | ((with_reducible apply r_end); focus (exact sd4)) | ((with_reducible (first | apply r_move | apply r_assign)); (focus (simp only [Tget_set, Nat.reduceEqDiff, ↓reduceIte, u3, u4] <;> rfl)); (focus (exact sd7))) | ((with_reducible apply r_condT); (focus (exact sd3))) | ((with_reducible (first | apply r_any | apply r_cond)); focus (simp only [↓reduceIte, clsOf, clsCall, Fr.ev, evs, ofV, ofA, ofS, put_mk, pureOp, readOp, pFA, pFA1, pFA2, rLd, rdAB_row, oneCell_one, someAgg_s, hget_same, hget_hset_ite, pBin, binA, intOp_lss, List.length_cons, List.length_nil, List.getElem?_cons_zero, List.getElem?_cons_succ, List.drop_zero, List.drop_succ_cons, List.take_succ_cons, List.take_zero, Nat.zero_add, Nat.reduceAdd, Nat.reduceLT, Nat.reduceLeDiff, Nat.reduceEqDiff, Nat.add_eq, loadA_w, loadW_a, loadW_s, callTo_s, heavyCall, target, pEx, List.nil_append, List.append_nil, binA, stepOp, stHeavy, stV_mk, stO_mk, sz26, ag26, Tryz.underlying28, sz217, ag217, stepAny, wantedA_none, rCall, rLen, Tget_set, u1, lA, lt_t hil, pIA_s Tryz.underlying26 sz217 hil, r0, ky_old hb0, k_vprint q2 htl, t1, t2, intOp_add (inR_succ hil hL.len)] <;> rfl)) | (with_reducible rw [ifQ_t]) | (with_reducible rw [ifQ_f]) | (with_reducible refine ifQ_intro ?_ ?_ <;> intro hb))
    exact r_rq_n (k := L.length - (i + 1)) (by omega) ⟨_, _, i + 1, rfl, rfl, by omega, rfl, by omega, (by first | (simp only [Tget_set, Nat.reduceEqDiff, ↓reduceIte, u1] <;> rfl) | rfl), (by first | (simp only [Tget_set, Nat.reduceEqDiff, ↓reduceIte] <;> rfl) | rfl), (by first | (simp only [Tget_set, ↓reduceIte] <;> rfl) | rfl)⟩
  · have hend : i = L.length := by omega
    repeat' (first | with_reducible (first | refine r_seq ?_ | refine r_next ?_ | refine r_block ?_ | refine r_seq_exit ?_ | refine r_seq_ret ?_ | refine r_blk_n ?_ | refine r_blk_ret ?_ | refine r_blk_hit ?_ | refine r_blk_miss rfl ?_ | refine r_skip ?_ | refine r_exit ?_ | refine r_ret ?_ | refine r_rq_exit ?_ | refine r_rq_ret ?_) | ((with_reducible apply r_regA); (focus (exact sd2)); (focus (exact sd1))) | ((with_reducible refine r_reg (List.toList_toArray) ?_ ?_); focus (exact sd1)) | ((with_reducible apply r_drawL); (focus kernel_rfl); (focus kernel_rfl); (focus (exact sd1))) | ((with_reducible apply r_end); focus (exact sd4)) | ((with_reducible (first | apply r_move | apply r_assign)); (focus (simp only [Tget_set, Nat.reduceEqDiff, ↓reduceIte, u3, u4] <;> rfl)); (focus (exact sd7))) | ((with_reducible apply r_condT); (focus (exact sd3))) | ((with_reducible (first | apply r_any | apply r_cond)); focus (simp only [↓reduceIte, clsOf, clsCall, Fr.ev, put_mk, pureOp, readOp, pFA, pFA1, pFA2, rLd, rdAB_row, oneCell_one, hget_same, pBin, binA, intOp_lss, List.length_cons, List.length_nil, List.getElem?_cons_zero, List.getElem?_cons_succ, List.drop_zero, List.drop_succ_cons, List.take_succ_cons, List.take_zero, Nat.zero_add, Nat.reduceAdd, Nat.reduceLT, Nat.reduceLeDiff, Nat.reduceEqDiff, Nat.add_eq, loadA_w, loadW_s, binA, stepOp, stV_mk, sz26, ag26, Tryz.underlying28, stepAny, wantedA_none, rCall, rLen, Tget_set, u1, lA, lt_f hil] <;> rfl)) | (with_reducible rw [ifQ_t]) | (with_reducible rw [ifQ_f]) | (with_reducible refine ifQ_intro ?_ ?_ <;> intro hb))
    subst hQ
    refine ret_back (by simp only [Tryz.results65, resultOf, resultsA, resultA, List.toList_toArray, Fr.ev, Tget_set, ↓reduceIte] <;> rfl) ?_
    exact ⟨_, by rw [hend, List.take_length], by repeat (first | exact Same.base _ _ _ | refine Same.hset hw ?_ (ky_le _ _))⟩
theorem k_vrprint {h h1 : Heap} {F : Nat} {q k c p : Int} {a : AV} {L : List (List AV)} (hL : LstP h ksV a L) (hq : in64 q) (hc : in64 c) (hp : in64 p) (hlen : L.length ≤ 2000000) (hs : SameH h h1) : CallF.fn (KT S) 65 [.agg [.int .i64 q, .int .i64 k, .int .i64 c, .int .i64 p, a]] ⟨h1, F⟩ = some [.val (.str (printR q k c p L)) ⟨h1, F⟩] :=
  kt_fn ((rfl : _ = spRp [.agg [.int .i64 q, .int .i64 k, .int .i64 c, .int .i64 p, a]] ⟨h1, F⟩).trans (by simp only [spRp, lstOf_same hL hs])) (vrprint h1 F q k c p a L (hL.same hs) hq hc hp hlen)
end

end Go.Proofs.YtfhgiadogeephaaGreatDoor

namespace Go.Proofs.YtfhgiadogeephaaGreatDoor
open Go Go.Ai
set_option maxRecDepth 100000

section
variable {S : FuncId → List AV → St → Out → Prop}
theorem by_inj {a b : List UInt8} (h : byCells a = byCells b) : a = b := by
  have h1 := bsA_by a
  rw [h, bsA_by b] at h1
  exact (Option.some.inj h1).symm
theorem row_inj {t es : Nat} {a b : List AV} (h : mkRowT t a es = mkRowT t b es) : a = b := by
  have hl : a.length = b.length := by unfold mkRowT at h; injection h
  have h1 := rdAB_row a es 0 a.length
  have h2 := rdAB_row b es 0 b.length
  rw [if_pos (by omega), List.drop_zero, List.take_of_length_le (by omega), ← rdAB_rowT t] at h1 h2
  rw [h, hl, h2] at h1
  exact (Option.some.inj h1).symm
theorem buf_inj {h : Heap} {e A B A' B' : Nat} {buf : AV} {l l' : List UInt8} (h1 : Buf Tryz.prog h e A B buf l) (h2 : Buf Tryz.prog h e A' B' buf l') : l = l' := by
  rcases h1 with ⟨rfl, rfl⟩ | ⟨p1, k, rfl, g1, _⟩
  · rcases h2 with ⟨_, rfl⟩ | ⟨_, k, e, _⟩
    · rfl
    · cases e
  · rcases h2 with ⟨e, _⟩ | ⟨_, k', e, g2, _⟩
    · cases e
    · simp only [AV.slice.injEq] at e
      obtain ⟨rfl, _⟩ := e
      exact by_inj (row_inj (Option.some.inj (g1.symm.trans g2)))
theorem bld_inj {h : Heap} {b A B A' B' tB e : Nat} {l l' : List UInt8} (h1 : Bld Tryz.prog h tB e b A B l) (h2 : Bld Tryz.prog h tB e b A' B' l') : l = l' := by
  obtain ⟨p, buf, g1, _, b1⟩ := h1
  obtain ⟨p', buf', g2, _, b2⟩ := h2
  obtain ⟨rfl, rfl⟩ := bRowT_inj (Option.some.inj (g1.symm.trans g2))
  exact buf_inj b1 b2
theorem Bld.move {h h' : Heap} {b A B tB e : Nat} {l : List UInt8} (o : Bld Tryz.prog h tB e b A B l) (hb : hget h' b = hget h b) (hg : ∀ i, ky A 0 ≤ i → i < ky B 0 → hget h' i = hget h i) : Bld Tryz.prog h' tB e b A B l := by
  obtain ⟨p, buf, g1, g2, b1⟩ := o
  exact ⟨p, buf, hb.trans g1, g2, Buf.move b1 hg⟩
theorem wstrQ {h : Heap} {F b : Nat} {x l : List UInt8} {A B : Nat} (hB : Bld Tryz.prog h 139 5 b A B l) (hbA : b < ky A 0) (hAB : A ≤ B) (hBF : B ≤ F) (hlen : l.length + x.length ≤ 400000000) : SndQ Tryz.prog GL 60 [.ptr b 0, .str x] ⟨h, F⟩ (ST A 60 [.ptr b 0, .str x] ⟨h, F⟩) :=
  (wstr h F b x l A B hB hbA hAB hBF hlen).mono fun o ⟨h', e, h1, h2⟩ => fun l' B' hB' => by obtain rfl := bld_inj hB hB'; exact ⟨h', e, h1, h2⟩
theorem wbytQ {h : Heap} {F b : Nat} {l : List UInt8} {A B : Nat} (hB : Bld Tryz.prog h 139 5 b A B l) (hbA : b < ky A 0) (hAB : A ≤ B) (hBF : B ≤ F) (hlen : l.length + 1 ≤ 400000000) : SndQ Tryz.prog GL 62 [.ptr b 0, .int .u8 10] ⟨h, F⟩ (ST A 62 [.ptr b 0, .int .u8 10] ⟨h, F⟩) :=
  (wbyt h F b l A B hB hbA hAB hBF hlen).mono fun o ⟨h', e, h1, h2⟩ => fun l' B' hB' => by obtain rfl := bld_inj hB hB'; exact ⟨h', e, h1, h2⟩
theorem strgQ {h : Heap} {F b : Nat} {l : List UInt8} {A B : Nat} (hB : Bld Tryz.prog h 139 5 b A B l) (hBF : B ≤ F) (hlen : l.length ≤ 400000000) : SndQ Tryz.prog GL 63 [.ptr b 0] ⟨h, F⟩ (ST A 63 [.ptr b 0] ⟨h, F⟩) :=
  (strg h F b l A B hB hBF hlen).mono fun o ⟨h', e, h1⟩ => fun l' B' hB' => by obtain rfl := bld_inj hB hB'; exact ⟨h', e, h1⟩
theorem tabT_at {X : List (List AV)} {Y : List (List (List AV))} {i : Nat} {q k c p : Int} {v : AV} {o : List (List AV)} (hx : X[i]? = some [.int .i64 q, .int .i64 k, .int .i64 c, .int .i64 p, v]) (ho : Y[i]? = some o) : tabT (X.take (i + 1)) (Y.take (i + 1)) = tabT (X.take i) (Y.take i) ++ (printR q k c p o ++ [10]) := tabT_take hx ho
def cntY (Y : List (List (List AV))) (i : Nat) : Nat := ((Y.take i).map List.length).sum
theorem cntY_succ {Y : List (List (List AV))} {i : Nat} {l : List (List AV)} (h : Y[i]? = some l) : cntY Y (i + 1) = cntY Y i + l.length := by
  unfold cntY
  rw [List.take_add_one, h]
  simp
theorem sum_memY : ∀ {l : List Nat} {x : Nat}, x ∈ l → x ≤ l.sum
  | y :: l, x, h => by
    rw [List.sum_cons]
    rcases List.mem_cons.1 h with rfl | h
    · omega
    · have := sum_memY h; omega
theorem cntY_mem {Y : List (List (List AV))} {l : List (List AV)} (h : l ∈ Y) : l.length ≤ cntY Y Y.length := by
  unfold cntY
  rw [List.take_length]
  exact sum_memY (List.mem_map_of_mem (f := List.length) h)
theorem cntY_mono {Y : List (List (List AV))} : ∀ {i : Nat}, cntY Y i ≤ cntY Y Y.length := fun {i} => by
  unfold cntY
  rw [List.take_length]
  conv => rhs; rw [← List.take_append_drop i Y]
  rw [List.map_append, List.sum_append]
  omega
theorem tabT_len {h : Heap} {a : AV} {X : List (List AV)} {Y : List (List (List AV))} (hA : RowN h ksR 4 ksV a X Y) : ∀ i, i ≤ X.length → (tabT (X.take i) (Y.take i)).length ≤ 101 * i + 131 * cntY Y i
  | 0, _ => by simp [tabT]
  | i + 1, hi => by
    have ih := tabT_len hA i (by omega)
    obtain ⟨q, k, c, p, v, el, q1, _, q3, q4⟩ := cks_R (hA.1.ok (show i < X.length by omega))
    have hx : X[i]? = some [.int .i64 q, .int .i64 k, .int .i64 c, .int .i64 p, v] := by rw [List.getElem?_eq_getElem (by omega), el]
    obtain ⟨v', l, g1, g2, g3⟩ := hA.get hx
    have hc := cntY_succ g2
    have hj := printR_len (k := k) g3 q1 q3 q4 l.length (Nat.le_refl _)
    rw [List.take_length] at hj
    rw [tabT_at hx g2]; simp only [List.length_append, List.length_cons, List.length_nil]; omega
set_option maxHeartbeats 4000000 in
theorem ptable (h : Heap) (F : Nat) (a : AV) (X : List (List AV)) (Y : List (List (List AV))) (hA : RowN h ksR 4 ksV a X Y) (hX : X.length ≤ 1000) (hC : cntY Y Y.length ≤ 2000000) : Snd Tryz.prog GL 28 [a] ⟨h, F⟩ [.val (.str (tabT X Y)) ⟨h, F⟩] := by
  refine snd_val (by simp [Kin]) fun hw => ?_
  have mxl : maxLen = 9223372036854775807 := by decide
  have lA := fun (h2 : Heap) => rLen1_L (h2 := h2) Tryz.underlying23 hA.1
  have hYl := hA.len
  have hbA := (ky_in (F := F) (c := 1) (by decide)).2
  refine sndQ_body (K := (KT (ST (F + 1)))) kt_ok mixed noNum (m := X.length + 1) Tryz.func28 ?_
  generalize hQ : retQ _ _ _ _ _ _ = Q0
  refine body_go (c := Tryz.f28.body.getD .skip) (n := 18) rfl rfl (by simp only [↓reduceIte, T.setList, T.set_e] <;> rfl) ?_
  simp only [Tryz.f28, Option.getD_some]
  repeat' (first | with_reducible (first | refine r_seq ?_ | refine r_next ?_ | refine r_block ?_ | refine r_seq_exit ?_ | refine r_seq_ret ?_ | refine r_blk_n ?_ | refine r_blk_ret ?_ | refine r_blk_hit ?_ | refine r_blk_miss rfl ?_ | refine r_skip ?_ | refine r_exit ?_ | refine r_ret ?_ | refine r_rq_exit ?_ | refine r_rq_ret ?_) | ((with_reducible apply r_regA); (focus (exact sd2)); (focus (exact sd1))) | ((with_reducible refine r_reg (List.toList_toArray) ?_ ?_); focus (exact sd1)) | ((with_reducible apply r_end); focus (exact sd4)) | ((with_reducible (first | apply r_move | apply r_assign)); (focus (exact sd3)); (focus (exact sd7))) | ((with_reducible apply r_condT); (focus (exact sd3))) | ((with_reducible (first | apply r_any | apply r_cond)); focus (simp only [↓reduceIte, clsOf, clsCall, newBlk, allocOp, Fr.ev, ofV, ofA, ofS, nVar, AV.cells, rowT_mk, put_mk, upd_mk, keyOf_mk, pureOp, readOp, List.getElem?_cons_zero, Nat.add_zero, Nat.reduceAdd, Nat.reduceLT, Nat.reduceEqDiff, Nat.reduceSub, stepOp, stV_mk, stB_mk, T.get_n, T.set_n, T.set_e, Nat.reduceDiv, Nat.reduceMod, zr139, tg139, stepAny, wantedA_none, rCall, rLen, lA] <;> rfl)) | (with_reducible rw [ifQ_t]) | (with_reducible rw [ifQ_f]) | (with_reducible refine ifQ_intro ?_ ?_ <;> intro hb))
  refine r_loop (I := fun nn fr s1 => ∃ lc tt h1 i F1, fr = ⟨F, lc, 18, tt, [], .no⟩ ∧ s1 = ⟨h1, F1⟩ ∧ F + 1 ≤ F1 ∧ i ≤ X.length ∧ nn = X.length - i ∧ 2 ≤ lc ∧ lc + nn * 1000 ≤ 100000000000000000000000000 ∧ Low F h h1 ∧ tt.get 3 = some (.ptr (ky F 1) 0) ∧ tt.get 6 = some a ∧ tt.get 7 = some (.int .i64 (X.length : Int)) ∧ tt.get 8 = some (.int .i64 (i : Int)) ∧ Bld Tryz.prog h1 139 5 (ky F 1) (F + 1) F1 (tabT (X.take i) (Y.take i))) (n := X.length) ?_ ?_ ?_
  · omega
  · refine ⟨_, _, _, 0, _, rfl, rfl, Nat.le_refl _, Nat.zero_le _, (Nat.sub_zero _).symm, by omega, by omega, ?_, (by first | (simp only [T.get_n, Nat.reduceEqDiff, Nat.reduceDiv, Nat.reduceMod, ↓reduceIte] <;> rfl) | rfl), (by first | (simp only [T.get_n, Nat.reduceEqDiff, Nat.reduceDiv, Nat.reduceMod, Nat.reduceSub, ↓reduceIte] <;> rfl) | rfl), (by first | (simp only [T.get_n, Nat.reduceEqDiff, Nat.reduceDiv, Nat.reduceMod, ↓reduceIte] <;> rfl) | rfl), (by first | (simp only [T.get_n, Nat.reduceEqDiff, Nat.reduceDiv, Nat.reduceMod, Nat.reduceSub, ↓reduceIte] <;> rfl) | rfl), ⟨.nilp, .nils, ?_, .inl rfl, .inl ⟨rfl, rfl⟩⟩⟩
    · exact (Low.refl F h).set (Nat.le_refl F)
    · rw [hget_hset, if_pos rfl]; rfl
  rintro nn fr s1 ⟨lc, tt, h1, i, F1, rfl, rfl, hF1, hi, rfl, hl2, hlc, hlow, u3, u6, u7, u8, hB⟩
  have hS := hlow.same hw
  have hln := tabT_len hA i hi
  have hmo := cntY_mono (Y := Y) (i := i)
  by_cases hil : i < X.length
  · obtain ⟨b1, o1, eo1, cap1, q, k, c, p, v, l, rfl, hb1, hx, hy, q1, _, q3, q4, hl, r1, _⟩ := res_at hw hA hS hil
    have hll := cntY_mem (List.mem_of_getElem? hy)
    have hmo1 := cntY_succ hy
    have hmo2 := cntY_mono (Y := Y) (i := i + 1)
    have hj := printR_len (k := k) hl q1 q3 q4 l.length (Nat.le_refl _)
    rw [List.take_length] at hj
    repeat' (first | with_reducible (first | refine r_seq ?_ | refine r_next ?_ | refine r_block ?_ | refine r_seq_exit ?_ | refine r_seq_ret ?_ | refine r_blk_n ?_ | refine r_blk_ret ?_ | refine r_blk_hit ?_ | refine r_blk_miss rfl ?_ | refine r_skip ?_ | refine r_exit ?_ | refine r_ret ?_ | refine r_rq_exit ?_ | refine r_rq_ret ?_) | ((with_reducible apply r_regA); (focus (exact sd2)); (focus (exact sd1))) | ((with_reducible refine r_reg (List.toList_toArray) ?_ ?_); focus (exact sd1)) | ((with_reducible apply r_end); focus (exact sd4)) | ((with_reducible (first | apply r_move | apply r_assign)); (focus (simp only [Tget_set, T.get_n, T.get_e, Nat.reduceEqDiff, Nat.reduceDiv, Nat.reduceMod, Nat.reduceSub, ↓reduceIte, if_true, if_false, u3, u6, u7, u8] <;> rfl)); (focus (exact sd7))) | ((with_reducible apply r_condT); (focus (exact sd3))) | ((with_reducible (first | apply r_any | apply r_cond)); focus (simp only [↓reduceIte, clsOf, clsCall, newBlk, allocOp, Fr.ev, evs, nVar, AV.cells, rowOf_mk, put_mk, put_none, upd_mk, keyOf_mk, pureOp, readOp, rLd, rdAB_row, someAgg_s, hget_same, pBin, binA, intOp_lss, List.length_cons, List.length_nil, List.drop_zero, List.take_succ_cons, List.take_zero, Nat.zero_add, Nat.reduceAdd, Nat.reduceLT, Nat.reduceLeDiff, Nat.reduceEqDiff, and_self, loadA_w, loadW_a, aSt_w, stOut_s, wrAB_row, ovr, List.set_cons_zero, List.set_cons_succ, allCell, ic_i, callTo_s, heavyCall, target, actOp, List.nil_append, List.append_nil, binA, stepOp, stHeavy, stV_mk, stB_mk, stO_mk, sz28, ag28, zr28, tg28, stepAny, wantedA_none, Tget_set, u3, u6, u7, u8, lt_t hil, pIA_s Tryz.underlying23 sz28 hil, r1, isCell_L hl, k_rprint hl q1 q3 q4 (show l.length ≤ 2000000 by omega), hS, sameS hw] <;> rfl)) | (with_reducible rw [ifQ_t]) | (with_reducible rw [ifQ_f]) | (with_reducible refine ifQ_intro ?_ ?_ <;> intro hb))
    have hB2 := Bld.move (h' := (hset (hset h1 (ky F (lc + 1 + 2)) (mkRow [.int .i64 0, .int .i64 0, .int .i64 0, .int .i64 0, .nils] 0)) (ky F (lc + 1 + 2)) (mkRow [.int .i64 q, .int .i64 k, .int .i64 c, .int .i64 p, v] 0))) hB (by rw [hget_hset, if_neg (by rw [ky_inj]; omega), hget_hset, if_neg (by rw [ky_inj]; omega)]) (fun j hj1 hj2 => by have := (ky_in (F := F) (c := lc + 1 + 2) (by omega)).2; rw [hget_hset, if_neg (by omega), hget_hset, if_neg (by omega)])
    refine r_callC (S := ST (F + 1)) (f := 60) (by first | rfl | (simp only [wantedA_none, Tget_set])) (by simp only [callOuts, callTo_s, target, evs, Fr.ev, Tget_set, Nat.reduceEqDiff, ↓reduceIte, List.nil_append, List.append_nil, u3]; exact kc_miss rfl) ?_ ?_
    · exact wstrQ hB2 hbA (by omega) (Nat.le_refl _) (by omega)
    intro o ho
    obtain ⟨h3, rfl, hB3, hbut3⟩ := ho _ _ hB2
    refine ⟨_, by simp only [put_mk, Nat.reduceLT, ↓reduceIte] <;> rfl, ?_⟩
    have hln2 : (tabT (X.take i) (Y.take i) ++ printR q k c p l).length + 1 ≤ 400000000 := by rw [List.length_append]; omega
    repeat' (first | with_reducible (first | refine r_seq ?_ | refine r_next ?_ | refine r_block ?_ | refine r_seq_exit ?_ | refine r_seq_ret ?_ | refine r_blk_n ?_ | refine r_blk_ret ?_ | refine r_blk_hit ?_ | refine r_blk_miss rfl ?_ | refine r_skip ?_ | refine r_exit ?_ | refine r_ret ?_ | refine r_rq_exit ?_ | refine r_rq_ret ?_) | ((with_reducible apply r_regA); (focus (exact sd2)); (focus (exact sd1))) | ((with_reducible refine r_reg (List.toList_toArray) ?_ ?_); focus (exact sd1)) | ((with_reducible apply r_end); focus (exact sd4)) | ((with_reducible (first | apply r_move | apply r_assign)); (focus (simp only [Tget_set, T.get_n, T.get_e, Nat.reduceEqDiff, Nat.reduceDiv, Nat.reduceMod, Nat.reduceSub, ↓reduceIte, if_true, if_false, u3, u6, u7, u8] <;> rfl)); (focus (exact sd7))) | ((with_reducible apply r_condT); (focus (simp only [Tget_set, T.get_n, T.get_e, Nat.reduceEqDiff, Nat.reduceDiv, Nat.reduceMod, Nat.reduceSub, ↓reduceIte, if_true, if_false, u3, u6, u7, u8] <;> rfl))) | ((with_reducible (first | apply r_any | apply r_cond)); focus (simp only [↓reduceIte, clsOf, clsCall, Fr.ev, evs, ofV, ofA, ofS, Nat.reduceEqDiff, callTo_s, heavyCall, target, List.nil_append, List.append_nil, stepOp, stHeavy, stepAny, wantedA_none, Tget_set, u3] <;> rfl)) | (with_reducible rw [ifQ_t]) | (with_reducible rw [ifQ_f]) | (with_reducible refine ifQ_intro ?_ ?_ <;> intro hb))
    refine r_callC (S := ST (F + 1)) (f := 62) (by first | rfl | (simp only [wantedA_none, Tget_set])) (by simp only [callOuts, callTo_s, target, evs, Fr.ev, Tget_set, Nat.reduceEqDiff, ↓reduceIte, List.nil_append, List.append_nil, ofV, ofA, ofS, u3]; exact kc_miss rfl) ?_ ?_
    · exact wbytQ hB3 hbA (by show F + 1 ≤ F1 + 1; omega) (Nat.le_refl _) hln2
    intro o ho
    obtain ⟨h4, rfl, hB4, hbut4⟩ := ho _ _ hB3
    refine ⟨_, by simp only [put_mk, Nat.reduceLT, ↓reduceIte] <;> rfl, ?_⟩
    repeat' (first | with_reducible (first | refine r_seq ?_ | refine r_next ?_ | refine r_block ?_ | refine r_seq_exit ?_ | refine r_seq_ret ?_ | refine r_blk_n ?_ | refine r_blk_ret ?_ | refine r_blk_hit ?_ | refine r_blk_miss rfl ?_ | refine r_skip ?_ | refine r_exit ?_ | refine r_ret ?_ | refine r_rq_exit ?_ | refine r_rq_ret ?_) | ((with_reducible apply r_regA); (focus (exact sd2)); (focus (exact sd1))) | ((with_reducible refine r_reg (List.toList_toArray) ?_ ?_); focus (exact sd1)) | ((with_reducible apply r_end); focus (exact sd4)) | ((with_reducible (first | apply r_move | apply r_assign)); (focus (exact sd3)); (focus (exact sd7))) | ((with_reducible apply r_condT); (focus (simp only [Tget_set, T.get_n, T.get_e, Nat.reduceEqDiff, Nat.reduceDiv, Nat.reduceMod, Nat.reduceSub, ↓reduceIte, if_true, if_false, u3, u6, u7, u8] <;> rfl))) | ((with_reducible (first | apply r_any | apply r_cond)); focus (simp only [↓reduceIte, clsOf, Fr.ev, ofV, ofA, ofS, put_mk, pureOp, pBin, binA, Nat.reduceLT, Nat.reduceEqDiff, binA, stepOp, stV_mk, stepAny, wantedA_none, Tget_set, u8, intOp_add (inR_succ hil hA.1.len)] <;> rfl)) | (with_reducible rw [ifQ_t]) | (with_reducible rw [ifQ_f]) | (with_reducible refine ifQ_intro ?_ ?_ <;> intro hb))
    refine r_rq_n (k := X.length - (i + 1)) (by omega) ⟨_, _, _, i + 1, F1 + 1 + 1, rfl, rfl, by omega, by omega, rfl, by omega, by omega, ?_, (by first | (simp only [Tget_set, Nat.reduceEqDiff, ↓reduceIte, u3] <;> rfl) | rfl), (by first | (simp only [Tget_set, Nat.reduceEqDiff, ↓reduceIte, u6] <;> rfl) | rfl), (by first | (simp only [Tget_set, Nat.reduceEqDiff, ↓reduceIte, u7] <;> rfl) | rfl), (by first | (simp only [Tget_set, ↓reduceIte] <;> rfl) | rfl), ?_⟩
    · intro j hj0
      have hk1 := ky_le F 1
      have hkk := ky_mono (show F ≤ F + 1 by omega)
      rw [hbut4 j (by omega) (.inl (by omega)), hbut3 j (by omega) (.inl (by omega))]
      show hget (hset (hset h1 (ky F (lc + 1 + 2)) (mkRow [.int .i64 0, .int .i64 0, .int .i64 0, .int .i64 0, .nils] 0)) (ky F (lc + 1 + 2)) (mkRow [.int .i64 q, .int .i64 k, .int .i64 c, .int .i64 p, v] 0)) j = _
      have hk2 := ky_le F (lc + 1 + 2)
      rw [hget_hset, if_neg (by omega), hget_hset, if_neg (by omega)]
      exact hlow j hj0
    · rw [tabT_at hx hy, ← List.append_assoc]; exact hB4
  · have hend : i = X.length := by omega
    rw [hend, List.take_length, ← hYl, List.take_length] at hB
    rw [hend, List.take_length, ← hYl, List.take_length] at hln
    repeat' (first | with_reducible (first | refine r_seq ?_ | refine r_next ?_ | refine r_block ?_ | refine r_seq_exit ?_ | refine r_seq_ret ?_ | refine r_blk_n ?_ | refine r_blk_ret ?_ | refine r_blk_hit ?_ | refine r_blk_miss rfl ?_ | refine r_skip ?_ | refine r_exit ?_ | refine r_ret ?_ | refine r_rq_exit ?_ | refine r_rq_ret ?_) | ((with_reducible apply r_regA); (focus (exact sd2)); (focus (exact sd1))) | ((with_reducible refine r_reg (List.toList_toArray) ?_ ?_); focus (exact sd1)) | ((with_reducible apply r_end); focus (exact sd4)) | ((with_reducible (first | apply r_move | apply r_assign)); (focus (simp only [Tget_set, T.get_n, T.get_e, Nat.reduceEqDiff, Nat.reduceDiv, Nat.reduceMod, Nat.reduceSub, ↓reduceIte, if_true, if_false, u3, u6, u7, u8] <;> rfl)); (focus (exact sd7))) | ((with_reducible apply r_condT); (focus (exact sd3))) | ((with_reducible (first | apply r_any | apply r_cond)); focus (simp only [↓reduceIte, clsOf, clsCall, Fr.ev, evs, put_mk, pureOp, pBin, binA, intOp_lss, Nat.reduceLT, Nat.reduceEqDiff, callTo_s, heavyCall, target, List.nil_append, List.append_nil, binA, stepOp, stHeavy, stV_mk, stepAny, wantedA_none, Tget_set, u3, u7, u8, lt_f hil] <;> rfl)) | (with_reducible rw [ifQ_t]) | (with_reducible rw [ifQ_f]) | (with_reducible refine ifQ_intro ?_ ?_ <;> intro hb))
    refine r_callC (S := ST (F + 1)) (f := 63) (by first | rfl | (simp only [wantedA_none, Tget_set])) (by simp only [callOuts, callTo_s, target, evs, Fr.ev, Tget_set, Nat.reduceEqDiff, ↓reduceIte, List.nil_append, List.append_nil, u3]; exact kc_miss rfl) ?_ ?_
    · exact strgQ hB (Nat.le_refl _) (by omega)
    intro o ho
    obtain ⟨h3, rfl, hlow3⟩ := ho _ _ hB
    refine ⟨_, by simp only [put_mk, Nat.reduceLT, ↓reduceIte] <;> rfl, ?_⟩
    repeat' (first | with_reducible (first | refine r_seq ?_ | refine r_next ?_ | refine r_block ?_ | refine r_seq_exit ?_ | refine r_seq_ret ?_ | refine r_blk_n ?_ | refine r_blk_ret ?_ | refine r_blk_hit ?_ | refine r_blk_miss rfl ?_ | refine r_skip ?_ | refine r_exit ?_ | refine r_ret ?_ | refine r_rq_exit ?_ | refine r_rq_ret ?_) | ((with_reducible apply r_regA); (focus (exact sd2)); (focus (exact sd1))) | ((with_reducible refine r_reg (List.toList_toArray) ?_ ?_); focus (exact sd1)) | ((with_reducible apply r_end); focus (exact sd4)) | ((with_reducible (first | apply r_move | apply r_assign)); (focus (exact sd3)); (focus (exact sd7))) | ((with_reducible apply r_condT); (focus (simp only [Tget_set, T.get_n, T.get_e, Nat.reduceEqDiff, Nat.reduceDiv, Nat.reduceMod, Nat.reduceSub, ↓reduceIte, if_true, if_false, u3] <;> rfl))) | (with_reducible rw [ifQ_t]) | (with_reducible rw [ifQ_f]) | (with_reducible refine ifQ_intro ?_ ?_ <;> intro hb))
    subst hQ
    refine ret_back (by simp only [Tryz.results28, resultOf, resultsA, resultA, List.toList_toArray, Fr.ev, Tget_set, ↓reduceIte] <;> rfl) ?_
    exact ⟨_, rfl, Low.same hw (hlow.trans (hlow3.down (by omega)))⟩
theorem k_ptable {h h1 : Heap} {F : Nat} {a : AV} {X : List (List AV)} {Y : List (List (List AV))} (hA : RowN h ksR 4 ksV a X Y) (hX : X.length ≤ 1000) (hC : cntY Y Y.length ≤ 2000000) (hs : SameH h h1) : CallF.fn (KT S) 28 [a] ⟨h1, F⟩ = some [.val (.str (tabT X Y)) ⟨h1, F⟩] :=
  kt_fn ((rfl : _ = spTb [a] ⟨h1, F⟩).trans (by simp only [spTb, rowsOf_same hA hs])) (ptable h1 F a X Y (hA.same hs) hX hC)
set_option maxHeartbeats 4000000 in
theorem vtable (h : Heap) (F : Nat) (a : AV) (X : List (List AV)) (Y : List (List (List AV))) (hA : RowN h ksR 4 ksV a X Y) (hX : X.length ≤ 1000) (hC : cntY Y Y.length ≤ 2000000) : Snd Tryz.prog GL 31 [a] ⟨h, F⟩ [.val (.str (tabT X Y)) ⟨h, F⟩] := by
  refine snd_val (by simp [Kin]) fun hw => ?_
  have mxl : maxLen = 9223372036854775807 := by decide
  have lA := fun (h2 : Heap) => rLen1_L (h2 := h2) Tryz.underlying23 hA.1
  have hYl := hA.len
  refine sndQ_body (K := (KT S0)) kt_ok mixed noNum (m := X.length + 1) Tryz.func31 ?_
  generalize hQ : retQ _ _ _ _ _ _ = Q0
  refine body_go (c := Tryz.f31.body.getD .skip) (n := 20) rfl rfl (by simp only [↓reduceIte, T.setList, T.set_e] <;> rfl) ?_
  simp only [Tryz.f31, Option.getD_some]
  repeat' (first | with_reducible (first | refine r_seq ?_ | refine r_next ?_ | refine r_block ?_ | refine r_seq_exit ?_ | refine r_seq_ret ?_ | refine r_blk_n ?_ | refine r_blk_ret ?_ | refine r_blk_hit ?_ | refine r_blk_miss rfl ?_ | refine r_skip ?_ | refine r_exit ?_ | refine r_ret ?_ | refine r_rq_exit ?_ | refine r_rq_ret ?_) | ((with_reducible apply r_regA); (focus (exact sd2)); (focus (exact sd1))) | ((with_reducible refine r_reg (List.toList_toArray) ?_ ?_); focus (exact sd1)) | ((with_reducible apply r_end); focus (exact sd4)) | ((with_reducible (first | apply r_move | apply r_assign)); (focus (exact sd3)); (focus (exact sd7))) | ((with_reducible apply r_condT); (focus (exact sd3))) | ((with_reducible (first | apply r_any | apply r_cond)); focus (simp only [↓reduceIte, clsOf, Fr.ev, ofV, ofA, ofS, put_mk, pureOp, Nat.reduceLT, Nat.reduceEqDiff, Nat.reduceSub, stepOp, stV_mk, T.set_n, T.set_e, Nat.reduceDiv, Nat.reduceMod, stepAny, wantedA_none] <;> rfl)) | (with_reducible rw [ifQ_t]) | (with_reducible rw [ifQ_f]) | (with_reducible refine ifQ_intro ?_ ?_ <;> intro hb))
  refine r_loop (I := fun nn fr s1 => ∃ lc tt i, fr = ⟨F, lc, 20, tt, [], .no⟩ ∧ s1 = ⟨h, F + 1⟩ ∧ i ≤ X.length ∧ nn = X.length - i ∧ lc + nn * 1000 ≤ 100000000000000000000000000 ∧ tt.get 0 = some a ∧ tt.get 3 = some (.str (tabT (X.take i) (Y.take i))) ∧ tt.get 4 = some (.int .i64 (i : Int))) (n := X.length) ?_ ?_ ?_
  · omega
  · exact ⟨_, _, 0, rfl, rfl, Nat.zero_le _, (Nat.sub_zero _).symm, by omega, (by first | (simp only [T.get_n, ↓reduceIte] <;> rfl) | rfl), (by first | (simp only [T.get_n, Nat.reduceEqDiff, Nat.reduceDiv, Nat.reduceMod, ↓reduceIte] <;> rfl) | rfl), (by first | (simp only [T.get_n, Nat.reduceEqDiff, Nat.reduceDiv, Nat.reduceMod, Nat.reduceSub, ↓reduceIte] <;> rfl) | rfl)⟩
  rintro nn fr s1 ⟨lc, tt, i, rfl, rfl, hi, rfl, hlc, u0, u3, u4⟩
  have hln := tabT_len hA i hi
  have hmo := cntY_mono (Y := Y) (i := i)
  by_cases hil : i < X.length
  · obtain ⟨b1, o1, eo1, cap1, q, k, c, p, v, l, rfl, hb1, hx, hy, q1, _, q3, q4, hl, r1, _⟩ := res_at hw hA (SameH.refl h) hil
    have hll := cntY_mem (List.mem_of_getElem? hy)
    have hmo1 := cntY_succ hy
    have hmo2 := cntY_mono (Y := Y) (i := i + 1)
    have hj := printR_len (k := k) hl q1 q3 q4 l.length (Nat.le_refl _)
    rw [List.take_length] at hj
    have t1 := strOp_add (a := tabT (X.take i) (Y.take i)) (b := printR q k c p l) (by omega)
    have t2 := strOp_add (a := tabT (X.take i) (Y.take i) ++ printR q k c p l) (b := [10]) (by simp only [List.length_append, List.length_cons, List.length_nil]; omega)
    have e := tabT_at hx hy
    rw [← List.append_assoc] at e
    rw [← e] at t2
    repeat' (first | with_reducible (first | refine r_seq ?_ | refine r_next ?_ | refine r_block ?_ | refine r_seq_exit ?_ | refine r_seq_ret ?_ | refine r_blk_n ?_ | refine r_blk_ret ?_ | refine r_blk_hit ?_ | refine r_blk_miss rfl ?_ | refine r_skip ?_ | refine r_exit ?_ | refine r_ret ?_ | refine r_rq_exit ?_ | refine r_rq_ret ?_) | ((with_reducible apply r_regA); (focus (exact sd2)); (focus (exact sd1))) | ((with_reducible refine r_reg (List.toList_toArray) ?_ ?_); focus (exact sd1)) | ((with_reducible apply r_end); focus (exact sd4)) | ((with_reducible (first | apply r_move | apply r_assign)); (focus (simp only [Tget_set, Nat.reduceEqDiff, ↓reduceIte, u0, u3, u4] <;> rfl)); (focus (exact sd7))) | ((with_reducible apply r_condT); (focus (exact sd3))) | ((with_reducible (first | apply r_any | apply r_cond)); focus (simp only [↓reduceIte, clsOf, clsCall, Fr.ev, evs, ofV, ofA, ofS, put_mk, pureOp, readOp, rLd, someAgg_s, pBin, binA, intOp_lss, List.getElem?_cons_zero, Nat.reduceLT, Nat.reduceEqDiff, loadA_w, loadW_a, callTo_s, heavyCall, target, List.nil_append, List.append_nil, binA, stepOp, stHeavy, stV_mk, stO_mk, sz28, ag28, stepAny, wantedA_none, rCall, rLen, Tget_set, lA, lt_t hil, pIA_s Tryz.underlying23 sz28 hil, r1, k_vrprint hl q1 q3 q4 (show l.length ≤ 2000000 by omega), t1, t2, sameT, intOp_add (inR_succ hil hA.1.len)] <;> rfl)) | (with_reducible rw [ifQ_t]) | (with_reducible rw [ifQ_f]) | (with_reducible refine ifQ_intro ?_ ?_ <;> intro hb))
    exact r_rq_n (k := X.length - (i + 1)) (by omega) ⟨_, _, i + 1, rfl, rfl, by omega, rfl, by omega, (by first | (simp only [Tget_set, Nat.reduceEqDiff, ↓reduceIte, u0] <;> rfl) | rfl), (by first | (simp only [Tget_set, Nat.reduceEqDiff, ↓reduceIte] <;> rfl) | rfl), (by first | (simp only [Tget_set, ↓reduceIte] <;> rfl) | rfl)⟩
  · have hend : i = X.length := by omega
    repeat' (first | with_reducible (first | refine r_seq ?_ | refine r_next ?_ | refine r_block ?_ | refine r_seq_exit ?_ | refine r_seq_ret ?_ | refine r_blk_n ?_ | refine r_blk_ret ?_ | refine r_blk_hit ?_ | refine r_blk_miss rfl ?_ | refine r_skip ?_ | refine r_exit ?_ | refine r_ret ?_ | refine r_rq_exit ?_ | refine r_rq_ret ?_) | ((with_reducible apply r_regA); (focus (exact sd2)); (focus (exact sd1))) | ((with_reducible refine r_reg (List.toList_toArray) ?_ ?_); focus (exact sd1)) | ((with_reducible apply r_end); focus (exact sd4)) | ((with_reducible (first | apply r_move | apply r_assign)); (focus (simp only [Tget_set, Nat.reduceEqDiff, ↓reduceIte, u0, u3, u4] <;> rfl)); (focus (exact sd7))) | ((with_reducible apply r_condT); (focus (exact sd3))) | ((with_reducible (first | apply r_any | apply r_cond)); focus (simp only [↓reduceIte, clsOf, clsCall, Fr.ev, put_mk, pureOp, readOp, pBin, binA, intOp_lss, List.getElem?_cons_zero, Nat.reduceLT, Nat.reduceEqDiff, binA, stepOp, stV_mk, stepAny, wantedA_none, rCall, rLen, Tget_set, lA, lt_f hil] <;> rfl)) | (with_reducible rw [ifQ_t]) | (with_reducible rw [ifQ_f]) | (with_reducible refine ifQ_intro ?_ ?_ <;> intro hb))
    subst hQ
    refine ret_back (by simp only [Tryz.results31, resultOf, resultsA, resultA, List.toList_toArray, Fr.ev, Tget_set, ↓reduceIte] <;> rfl) ?_
    exact ⟨_, by rw [hend, List.take_length, ← hYl, List.take_length], Same.base _ _ _⟩
theorem k_vtable {h h1 : Heap} {F : Nat} {a : AV} {X : List (List AV)} {Y : List (List (List AV))} (hA : RowN h ksR 4 ksV a X Y) (hX : X.length ≤ 1000) (hC : cntY Y Y.length ≤ 2000000) (hs : SameH h h1) : CallF.fn (KT S) 31 [a] ⟨h1, F⟩ = some [.val (.str (tabT X Y)) ⟨h1, F⟩] :=
  kt_fn ((rfl : _ = spTb [a] ⟨h1, F⟩).trans (by simp only [spTb, rowsOf_same hA hs])) (vtable h1 F a X Y (hA.same hs) hX hC)
end

end Go.Proofs.YtfhgiadogeephaaGreatDoor

namespace Go.Proofs.YtfhgiadogeephaaGreatDoor
open Go Go.Ai
set_option maxRecDepth 100000

set_option maxHeartbeats 2000000 in
theorem hashA (G : Glob) (h : Heap) (F : Nat) (s : Tx) (hs : s.length ≤ maxLen) : Snd Tryz.prog G 26 [.str s] ⟨h, F⟩ [.val (.int .u64 (hashI s)) ⟨h, F⟩] := by
  have mxl : maxLen = 9223372036854775807 := by decide
  refine snd_val (by simp [Kin]) fun hw => ?_
  refine sndQ_body (K := K0) kok0 mixed noNum (m := (s.length + 1)) Tryz.func26 ?_
  generalize hQ : retQ _ _ _ _ _ _ = Q0
  refine body_go (c := Tryz.f26.body.getD .skip) (n := 19) rfl rfl (by simp only [↓reduceIte, T.setList, T.set_e] <;> rfl) ?_
  simp only [Tryz.f26, Option.getD_some]
  repeat' (first | with_reducible (first | refine r_seq ?_ | refine r_next ?_ | refine r_block ?_ | refine r_seq_exit ?_ | refine r_seq_ret ?_ | refine r_blk_n ?_ | refine r_blk_ret ?_ | refine r_blk_hit ?_ | refine r_blk_miss rfl ?_ | refine r_skip ?_ | refine r_exit ?_ | refine r_ret ?_ | refine r_rq_exit ?_ | refine r_rq_ret ?_) | ((with_reducible apply r_regA); (focus (exact sd2)); (focus (exact sd1))) | ((with_reducible refine r_reg (List.toList_toArray) ?_ ?_); focus (exact sd1)) | ((with_reducible apply r_end); focus (exact sd4)) | ((with_reducible (first | apply r_move | apply r_assign)); (focus (exact sd3)); (focus (exact sd7))) | ((with_reducible apply r_condT); (focus (exact sd3))) | ((with_reducible (first | apply r_any | apply r_cond)); focus (simp only [↓reduceIte, clsOf, clsCall, Fr.ev, ofV, ofA, ofS, put_mk, pureOp, readOp, List.getElem?_cons_zero, Nat.reduceLT, Nat.reduceEqDiff, Nat.reduceSub, stepOp, stV_mk, T.get_n, T.set_n, T.set_e, Nat.reduceDiv, Nat.reduceMod, Tryz.underlying9, stepAny, wantedA_none, rCall, rLen, rLen1_str, lenA] <;> rfl)) | (with_reducible rw [ifQ_t]) | (with_reducible rw [ifQ_f]) | (with_reducible refine ifQ_intro ?_ ?_ <;> intro hb))
  refine r_loop (I := fun nn fr s1 => ∃ lc tt i, fr = ⟨F, lc, 19, tt, [], .no⟩ ∧ s1 = ⟨h, F + 1⟩ ∧ i ≤ s.length ∧ nn = s.length - i ∧ lc + nn * 1000 ≤ 100000000000000000000000000 ∧ tt.get 0 = some (.str s) ∧ tt.get 3 = some (.int .u64 (hashP s i)) ∧ tt.get 7 = some (.int .i64 (i : Int)) ∧ tt.get 6 = some (.int .i64 (s.length : Int))) (n := s.length) ?_ ?_ ?_
  · omega
  · exact ⟨_, _, 0, rfl, rfl, Nat.zero_le _, (Nat.sub_zero _).symm, by omega, (by first | (simp only [T.get_n, ↓reduceIte] <;> rfl) | rfl), (by first | (simp only [T.get_n, Nat.reduceEqDiff, Nat.reduceDiv, Nat.reduceMod, ↓reduceIte, hashP_0] <;> rfl) | rfl), (by first | (simp only [T.get_n, Nat.reduceEqDiff, Nat.reduceDiv, Nat.reduceMod, ↓reduceIte] <;> rfl) | rfl), (by first | (simp only [T.get_n, Nat.reduceEqDiff, Nat.reduceDiv, Nat.reduceMod, Nat.reduceSub, ↓reduceIte] <;> rfl) | rfl)⟩
  rintro nn fr s1 ⟨lc, tt, i, rfl, rfl, hi, rfl, hlc, u0, u3, u7, u6⟩
  by_cases hil : i < s.length
  · have hc : s[i]? = some s[i] := by simp [hil]
    repeat' (first | with_reducible (first | refine r_seq ?_ | refine r_next ?_ | refine r_block ?_ | refine r_seq_exit ?_ | refine r_seq_ret ?_ | refine r_blk_n ?_ | refine r_blk_ret ?_ | refine r_blk_hit ?_ | refine r_blk_miss rfl ?_ | refine r_skip ?_ | refine r_exit ?_ | refine r_ret ?_ | refine r_rq_exit ?_ | refine r_rq_ret ?_) | ((with_reducible apply r_regA); (focus (exact sd2)); (focus (exact sd1))) | ((with_reducible refine r_reg (List.toList_toArray) ?_ ?_); focus (exact sd1)) | ((with_reducible apply r_end); focus (exact sd4)) | ((with_reducible (first | apply r_move | apply r_assign)); (focus (simp only [Tget_set, Nat.reduceEqDiff, ↓reduceIte, u0, u3, u7] <;> rfl)); (focus (exact sd7))) | ((with_reducible apply r_condT); (focus (exact sd3))) | ((with_reducible (first | apply r_any | apply r_cond)); focus (simp only [↓reduceIte, clsOf, Fr.ev, ofV, ofA, ofS, put_mk, pureOp, readOp, pBin, binA, intOp_lss, Nat.reduceLT, Nat.reduceEqDiff, binA, stepOp, stV_mk, Tryz.underlying9, stepAny, wantedA_none, Tget_set, natOf_c, u7, u6, lt_t hil, hc, pIx, pIx1, pIx2, intOp_add (inR_succ hil hs), intOp_xor, intOp_mul, rCv_int Tryz.underlying34 Tryz.underlying5] <;> rfl)) | (with_reducible rw [ifQ_t]) | (with_reducible rw [ifQ_f]) | (with_reducible refine ifQ_intro ?_ ?_ <;> intro hb))
    exact r_rq_n (k := s.length - (i + 1)) (by omega) ⟨_, _, i + 1, rfl, rfl, by omega, rfl, by omega, (by first | (simp only [Tget_set, Nat.reduceEqDiff, ↓reduceIte, u0] <;> rfl) | rfl), (by first | (simp only [Tget_set, Nat.reduceEqDiff, ↓reduceIte, hashP_succ hil] <;> rfl) | rfl), (by first | (simp only [Tget_set, ↓reduceIte] <;> rfl) | rfl), (by first | (simp only [Tget_set, Nat.reduceEqDiff, ↓reduceIte, u6] <;> rfl) | rfl)⟩
  · have hend : i = s.length := by omega
    repeat' (first | with_reducible (first | refine r_seq ?_ | refine r_next ?_ | refine r_block ?_ | refine r_seq_exit ?_ | refine r_seq_ret ?_ | refine r_blk_n ?_ | refine r_blk_ret ?_ | refine r_blk_hit ?_ | refine r_blk_miss rfl ?_ | refine r_skip ?_ | refine r_exit ?_ | refine r_ret ?_ | refine r_rq_exit ?_ | refine r_rq_ret ?_) | ((with_reducible apply r_regA); (focus (exact sd2)); (focus (exact sd1))) | ((with_reducible refine r_reg (List.toList_toArray) ?_ ?_); focus (exact sd1)) | ((with_reducible apply r_end); focus (exact sd4)) | ((with_reducible (first | apply r_move | apply r_assign)); (focus (simp only [Tget_set, Nat.reduceEqDiff, ↓reduceIte, u3] <;> rfl)); (focus (exact sd7))) | ((with_reducible apply r_condT); (focus (exact sd3))) | ((with_reducible (first | apply r_any | apply r_cond)); focus (simp only [↓reduceIte, clsOf, Fr.ev, put_mk, pureOp, pBin, binA, intOp_lss, Nat.reduceLT, binA, stepOp, stV_mk, stepAny, wantedA_none, u7, u6, lt_f hil] <;> rfl)) | (with_reducible rw [ifQ_t]) | (with_reducible rw [ifQ_f]) | (with_reducible refine ifQ_intro ?_ ?_ <;> intro hb))
    subst hQ
    refine ret_back (by simp only [Tryz.results26, resultOf, resultsA, resultA, List.toList_toArray, Fr.ev, Tget_set, ↓reduceIte] <;> rfl) ?_
    exact ⟨_, by rw [hend, hashP_all], Same.base _ _ _⟩

set_option maxHeartbeats 2000000 in
theorem hashB (G : Glob) (h : Heap) (F : Nat) (s : Tx) (hs : s.length ≤ maxLen) : Snd Tryz.prog G 29 [.str s] ⟨h, F⟩ [.val (.int .u64 (hashI s)) ⟨h, F⟩] := by
  have mxl : maxLen = 9223372036854775807 := by decide
  refine snd_val (by simp [Kin]) fun hw => ?_
  refine sndQ_body (K := K0) kok0 mixed noNum (m := (s.length + 1)) Tryz.func29 ?_
  generalize hQ : retQ _ _ _ _ _ _ = Q0
  refine body_go (c := Tryz.f29.body.getD .skip) (n := 19) rfl rfl (by simp only [↓reduceIte, T.setList, T.set_e] <;> rfl) ?_
  simp only [Tryz.f29, Option.getD_some]
  repeat' (first | with_reducible (first | refine r_seq ?_ | refine r_next ?_ | refine r_block ?_ | refine r_seq_exit ?_ | refine r_seq_ret ?_ | refine r_blk_n ?_ | refine r_blk_ret ?_ | refine r_blk_hit ?_ | refine r_blk_miss rfl ?_ | refine r_skip ?_ | refine r_exit ?_ | refine r_ret ?_ | refine r_rq_exit ?_ | refine r_rq_ret ?_) | ((with_reducible apply r_regA); (focus (exact sd2)); (focus (exact sd1))) | ((with_reducible refine r_reg (List.toList_toArray) ?_ ?_); focus (exact sd1)) | ((with_reducible apply r_end); focus (exact sd4)) | ((with_reducible (first | apply r_move | apply r_assign)); (focus (exact sd3)); (focus (exact sd7))) | ((with_reducible apply r_condT); (focus (exact sd3))) | ((with_reducible (first | apply r_any | apply r_cond)); focus (simp only [↓reduceIte, clsOf, Fr.ev, ofV, ofA, ofS, put_mk, pureOp, Nat.reduceLT, Nat.reduceEqDiff, Nat.reduceSub, stepOp, stV_mk, T.set_n, T.set_e, Nat.reduceDiv, Nat.reduceMod, stepAny, wantedA_none] <;> rfl)) | (with_reducible rw [ifQ_t]) | (with_reducible rw [ifQ_f]) | (with_reducible refine ifQ_intro ?_ ?_ <;> intro hb))
  refine r_loop (I := fun nn fr s1 => ∃ lc tt i, fr = ⟨F, lc, 19, tt, [], .no⟩ ∧ s1 = ⟨h, F + 1⟩ ∧ i ≤ s.length ∧ nn = s.length - i ∧ lc + nn * 1000 ≤ 100000000000000000000000000 ∧ tt.get 0 = some (.str s) ∧ tt.get 3 = some (.int .u64 (hashP s i)) ∧ tt.get 4 = some (.int .i64 (i : Int))) (n := s.length) ?_ ?_ ?_
  · omega
  · exact ⟨_, _, 0, rfl, rfl, Nat.zero_le _, (Nat.sub_zero _).symm, by omega, (by first | (simp only [T.get_n, ↓reduceIte] <;> rfl) | rfl), (by first | (simp only [T.get_n, Nat.reduceEqDiff, Nat.reduceDiv, Nat.reduceMod, ↓reduceIte, hashP_0] <;> rfl) | rfl), (by first | (simp only [T.get_n, Nat.reduceEqDiff, Nat.reduceDiv, Nat.reduceMod, Nat.reduceSub, ↓reduceIte] <;> rfl) | rfl)⟩
  rintro nn fr s1 ⟨lc, tt, i, rfl, rfl, hi, rfl, hlc, u0, u3, u4⟩
  by_cases hil : i < s.length
  · have hc : s[i]? = some s[i] := by simp [hil]
    repeat' (first | with_reducible (first | refine r_seq ?_ | refine r_next ?_ | refine r_block ?_ | refine r_seq_exit ?_ | refine r_seq_ret ?_ | refine r_blk_n ?_ | refine r_blk_ret ?_ | refine r_blk_hit ?_ | refine r_blk_miss rfl ?_ | refine r_skip ?_ | refine r_exit ?_ | refine r_ret ?_ | refine r_rq_exit ?_ | refine r_rq_ret ?_) | ((with_reducible apply r_regA); (focus (exact sd2)); (focus (exact sd1))) | ((with_reducible refine r_reg (List.toList_toArray) ?_ ?_); focus (exact sd1)) | ((with_reducible apply r_end); focus (exact sd4)) | ((with_reducible (first | apply r_move | apply r_assign)); (focus (simp only [Tget_set, Nat.reduceEqDiff, ↓reduceIte, u0, u3, u4] <;> rfl)); (focus (exact sd7))) | ((with_reducible apply r_condT); (focus (exact sd3))) | ((with_reducible (first | apply r_any | apply r_cond)); focus (simp only [↓reduceIte, clsOf, clsCall, Fr.ev, ofV, ofA, ofS, put_mk, pureOp, readOp, pBin, binA, intOp_lss, List.getElem?_cons_zero, Nat.reduceLT, Nat.reduceEqDiff, binA, stepOp, stV_mk, Tryz.underlying9, stepAny, wantedA_none, rCall, rLen, rLen1_str, lenA, Tget_set, natOf_c, lt_t hil, hc, pIx, pIx1, pIx2, intOp_add (inR_succ hil hs), intOp_xor, intOp_mul, rCv_int Tryz.underlying34 Tryz.underlying5] <;> rfl)) | (with_reducible rw [ifQ_t]) | (with_reducible rw [ifQ_f]) | (with_reducible refine ifQ_intro ?_ ?_ <;> intro hb))
    exact r_rq_n (k := s.length - (i + 1)) (by omega) ⟨_, _, i + 1, rfl, rfl, by omega, rfl, by omega, (by first | (simp only [Tget_set, Nat.reduceEqDiff, ↓reduceIte, u0] <;> rfl) | rfl), (by first | (simp only [Tget_set, Nat.reduceEqDiff, ↓reduceIte, hashP_succ hil] <;> rfl) | rfl), (by first | (simp only [Tget_set, ↓reduceIte] <;> rfl) | rfl)⟩
  · have hend : i = s.length := by omega
    repeat' (first | with_reducible (first | refine r_seq ?_ | refine r_next ?_ | refine r_block ?_ | refine r_seq_exit ?_ | refine r_seq_ret ?_ | refine r_blk_n ?_ | refine r_blk_ret ?_ | refine r_blk_hit ?_ | refine r_blk_miss rfl ?_ | refine r_skip ?_ | refine r_exit ?_ | refine r_ret ?_ | refine r_rq_exit ?_ | refine r_rq_ret ?_) | ((with_reducible apply r_regA); (focus (exact sd2)); (focus (exact sd1))) | ((with_reducible refine r_reg (List.toList_toArray) ?_ ?_); focus (exact sd1)) | ((with_reducible apply r_end); focus (exact sd4)) | ((with_reducible (first | apply r_move | apply r_assign)); (focus (simp only [Tget_set, Nat.reduceEqDiff, ↓reduceIte, u0, u3, u4] <;> rfl)); (focus (exact sd7))) | ((with_reducible apply r_condT); (focus (exact sd3))) | ((with_reducible (first | apply r_any | apply r_cond)); focus (simp only [↓reduceIte, clsOf, clsCall, Fr.ev, put_mk, pureOp, readOp, pBin, binA, intOp_lss, List.getElem?_cons_zero, Nat.reduceLT, Nat.reduceEqDiff, binA, stepOp, stV_mk, Tryz.underlying9, stepAny, wantedA_none, rCall, rLen, rLen1_str, lenA, Tget_set, lt_f hil] <;> rfl)) | (with_reducible rw [ifQ_t]) | (with_reducible rw [ifQ_f]) | (with_reducible refine ifQ_intro ?_ ?_ <;> intro hb))
    subst hQ
    refine ret_back (by simp only [Tryz.results29, resultOf, resultsA, resultA, List.toList_toArray, Fr.ev, Tget_set, ↓reduceIte] <;> rfl) ?_
    exact ⟨_, by rw [hend, hashP_all], Same.base _ _ _⟩

end Go.Proofs.YtfhgiadogeephaaGreatDoor

