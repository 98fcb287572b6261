/- A part of the proof of the law ReplayRings. CONDITIONS: those that each theorem names. -/
import Derived.Test.YtpgkhpfogjclhaaGreatDoorR6
import Derived.Test.YtpgkhpfogjclhaaGreatDoorGOrd
namespace Go.Proofs.YtpgkhpfogjclhaaGreatDoor
open Go Go.Ai
set_option maxRecDepth 100000

def S11 (Gs : List (List Int)) : FuncId → List AV → St → Out → Prop
  | 38, _, s, o => ∃ v h', o = .val v ⟨h', s.fc + 1⟩ ∧ Low s.fc s.h h' ∧ SameH s.h h' ∧ Lst2I s.fc (s.fc + 1) h' ksN v (Gs.map iL)
  | _, _, _, _ => True
theorem by3 : bytesT Tryz.prog 3 = some 8 := by kernel_rfl
set_option maxHeartbeats 16000000 in
theorem order11 (h : Heap) (F : Nat) (n : Int) (a : AV) (L : List (List AV)) (hA : LstP h ksE a L) (hn : n ≤ 50) (hL : L.length ≤ 300) :
    SndQ Tryz.prog [] 11 [.int .i64 n, a] ⟨h, F⟩ (fun o => ∃ v h', o = .val (.tup [v, .bool (ordOk n.toNat (edgesL L))]) ⟨h', F + 1 + 1⟩ ∧ Low F h h' ∧ SameH h h' ∧ LstI F (F + 1) h' ksN v (iL (ordL n.toNat (edgesL L)))) := by
  have mxl : maxLen = 9223372036854775807 := by decide
  refine sndQ_wf fun hw => ?_
  obtain ⟨N, hN⟩ : ∃ N, n.toNat = N := ⟨_, rfl⟩
  obtain ⟨E, hE⟩ : ∃ E, edgesL L = E := ⟨_, rfl⟩
  have hEl : E.length ≤ 300 := by rw [← hE, edgesL_len]; exact hL
  have hNl : N ≤ 50 := by omega
  have hNE : ∀ k, k ≤ N → k * E.length ≤ 15000 := fun k hk => by
    have := Nat.mul_le_mul (show k ≤ 50 by omega) hEl
    omega
  refine sndQ_body (K := KU Tryz.prog [] (S11 (gOf N E))) ku_ok mixed noNum (m := 100001) Tryz.func11 ?_
  generalize hQ : retQ _ _ _ _ _ _ = Q0
  refine body_go (c := Tryz.f11.body.getD .skip) (n := 97) rfl rfl (by simp only [↓reduceIte, T.setList, T.set_e, T.set_n, Nat.reduceDiv, Nat.reduceMod, Nat.reduceEqDiff, Nat.zero_add] <;> rfl) ?_
  simp only [Tryz.f11, Option.getD_some]
  repeat' (first
  | with_reducible refine r_seq ?_
  | with_reducible refine r_next ?_
  | with_reducible refine r_block ?_
  | with_reducible refine r_seq_exit ?_
  | with_reducible refine r_seq_ret ?_
  | with_reducible refine r_blk_n ?_
  | with_reducible refine r_blk_ret ?_
  | with_reducible refine r_blk_hit ?_
  | with_reducible refine r_blk_miss rfl ?_
  | with_reducible refine r_skip ?_
  | with_reducible refine r_exit ?_
  | with_reducible refine r_ret ?_
  | with_reducible refine r_rq_exit ?_
  | with_reducible refine r_rq_ret ?_
  | ((with_reducible apply r_regA); (focus (simp only [List.append_eq, List.cons_append, List.nil_append] <;> rfl)); (focus (first | exact Nat.le_of_ble_eq_true rfl | (simp only [List.length_cons, List.length_nil]; omega))))
  | ((with_reducible refine r_reg (List.toList_toArray) ?_ ?_); focus (first | exact Nat.le_of_ble_eq_true rfl | (simp only [List.length_cons, List.length_nil]; omega)))
  | ((with_reducible apply r_drawL); (focus kernel_rfl); (focus kernel_rfl); (focus (first | exact Nat.le_of_ble_eq_true rfl | (simp only [List.length_cons, List.length_nil]; omega))))
  | ((with_reducible apply r_end); focus (simp only [Nat.reduceAdd, Nat.zero_add] <;> rfl))
  | ((with_reducible (first | apply r_move | apply r_assign)); (focus (simp only [Tget_set, T.get_n, Nat.reduceEqDiff, Nat.reduceDiv, Nat.reduceMod, ↓reduceIte] <;> rfl)); (focus (exact Nat.le_of_ble_eq_true rfl)))
  | ((with_reducible apply r_condT); (focus (simp only [Tget_set, T.get_n, T.get_e, Nat.reduceEqDiff, Nat.reduceDiv, Nat.reduceMod, Nat.reduceSub, ↓reduceIte, if_true, if_false] <;> rfl)))
  | ((with_reducible (first | apply r_any | apply r_cond)); focus (simp only [↓reduceIte, clsOf, clsCall, Fr.ev, evs, ofV, ofA, ofS, put_mk, pureOp, Nat.reduceLT, Nat.reduceEqDiff, Nat.reduceSub, callTo_s, heavyCall, target, List.nil_append, List.append_nil, stepOp, stHeavy, stV_mk, T.get_n, T.set_n, T.set_e, Nat.reduceDiv, Nat.reduceMod, stepAny, wantedA_none] <;> rfl))
  | (with_reducible rw [ifQ_t])
  | (with_reducible rw [ifQ_f])
  | (with_reducible refine ifQ_intro ?_ ?_ <;> intro hb))
  refine r_callQ (f := 38) (by simp only [↓reduceIte, Nat.reduceEqDiff, Nat.reduceSub, T.set_n, T.set_e, Nat.reduceDiv, Nat.reduceMod, wantedA_none] <;> rfl) (by simp only [callOuts, ku_fn, callTo_s, target, ↓reduceIte, Fr.ev, evs, Nat.reduceEqDiff, Nat.reduceSub, callTo_s, target, List.nil_append, List.append_nil, T.get_n, T.set_n, T.set_e, Nat.reduceDiv, Nat.reduceMod] <;> rfl) ?_ ?_
  · have := graph38 h (F + 1) n a L hA (by omega) (by omega)
    rw [hN, hE] at this
    exact this
  rintro o ⟨g, h1, rfl, hlow1, hsame1, hg1⟩
  refine ⟨_, by simp only [put_mk, Nat.reduceLT, ↓reduceIte] <;> rfl, ?_⟩
  simp only [] at hlow1 hg1
  have hll : ((gOf N E).map iL).length = N := by rw [List.length_map, gOf_len]
  have hgl := fun (h2 : Heap) => rLen1_I2 (h2 := h2) Tryz.underlying78 hg1
  rw [hll] at hgl
  have hlow1' := hlow1.down (show F ≤ F + 1 by omega)
  repeat' (first
  | with_reducible refine r_seq ?_
  | with_reducible refine r_next ?_
  | with_reducible refine r_block ?_
  | with_reducible refine r_seq_exit ?_
  | with_reducible refine r_seq_ret ?_
  | with_reducible refine r_blk_n ?_
  | with_reducible refine r_blk_ret ?_
  | with_reducible refine r_blk_hit ?_
  | with_reducible refine r_blk_miss rfl ?_
  | with_reducible refine r_skip ?_
  | with_reducible refine r_exit ?_
  | with_reducible refine r_ret ?_
  | with_reducible refine r_rq_exit ?_
  | with_reducible refine r_rq_ret ?_
  | ((with_reducible apply r_regA); (focus (simp only [List.append_eq, List.cons_append, List.nil_append] <;> rfl)); (focus (first | exact Nat.le_of_ble_eq_true rfl | (simp only [List.length_cons, List.length_nil]; omega))))
  | ((with_reducible refine r_reg (List.toList_toArray) ?_ ?_); focus (first | exact Nat.le_of_ble_eq_true rfl | (simp only [List.length_cons, List.length_nil]; omega)))
  | ((with_reducible apply r_drawL); (focus kernel_rfl); (focus kernel_rfl); (focus (first | exact Nat.le_of_ble_eq_true rfl | (simp only [List.length_cons, List.length_nil]; omega))))
  | ((with_reducible apply r_end); focus (simp only [Nat.reduceAdd, Nat.zero_add] <;> rfl))
  | ((with_reducible (first | apply r_move | apply r_assign)); (focus (simp only [Tget_set, T.get_n, Nat.reduceEqDiff, Nat.reduceDiv, Nat.reduceMod, Nat.reduceSub, ↓reduceIte] <;> rfl)); (focus (exact Nat.le_of_ble_eq_true rfl)))
  | ((with_reducible apply r_condT); (focus (simp only [Tget_set, T.get_n, T.get_e, Nat.reduceEqDiff, Nat.reduceDiv, Nat.reduceMod, Nat.reduceSub, ↓reduceIte, if_true, if_false] <;> rfl)))
  | ((with_reducible (first | apply r_any | apply r_cond)); focus (simp only [↓reduceIte, clsOf, clsCall, newBlk, allocOp, Fr.ev, ofV, ofA, ofS, put_mk, upd_mk, keyOf_mk, pureOp, readOp, List.getElem?_cons_zero, Nat.zero_add, Nat.reduceAdd, Nat.reduceLT, Nat.reduceEqDiff, Nat.reduceSub, stepOp, stV_mk, stB_mk, T.get_n, T.set_n, T.set_e, Nat.reduceDiv, Nat.reduceMod, Tryz.underlying80, stepAny, wantedA_none, rCall, rLen, hgl, nMS_a sz3 by3 zr3 rfl (show 8 * N ≤ 1073741824 by omega) (show N ≤ 1073741824 by omega)] <;> rfl))
  | (with_reducible rw [ifQ_t])
  | (with_reducible rw [ifQ_f])
  | (with_reducible refine ifQ_intro ?_ ?_ <;> intro hb))
  rw [ints_repl]
  refine r_loop (I := fun nn fr s1 => ∃ lc tt h2 u A, fr = ⟨F, lc, 97, tt, [], .no⟩ ∧ s1 = ⟨h2, F + 1 + 1⟩ ∧ u ≤ N ∧ nn = N - u ∧ 13 ≤ lc ∧ lc + nn * 1000000000 ≤ 100000000000000000000000000 ∧ tt.get 6 = some g ∧ tt.get 7 = some (.slice (ky F 8) 0 0 N (some N)) ∧ tt.get 24 = some g ∧ tt.get 25 = some (.int .i64 (N : Int)) ∧ tt.get 26 = some (.int .i64 (u : Int)) ∧ Low F h h2 ∧ EqI (F + 1) (F + 1 + 1) h1 h2 ∧ hget h2 (ky F 8) = some (aRow (ints A)) ∧ CA N A (fun v => (sumTo N E u v : Int))) (n := N) ?_ ?_ ?_
  · omega
  · refine ⟨_, _, _, 0, List.replicate N 0, rfl, rfl, Nat.zero_le _, (Nat.sub_zero _).symm, by omega, by omega, (by first | (simp only [T.get_n, Nat.reduceEqDiff, Nat.reduceDiv, Nat.reduceMod, Nat.reduceSub, ↓reduceIte] <;> rfl) | rfl), (by first | (simp only [T.get_n, Nat.reduceEqDiff, Nat.reduceDiv, Nat.reduceMod, ↓reduceIte] <;> rfl) | rfl), (by first | (simp only [T.get_n, Nat.reduceEqDiff, Nat.reduceDiv, Nat.reduceMod, Nat.reduceSub, ↓reduceIte] <;> rfl) | rfl), (by first | (simp only [T.get_n, Nat.reduceEqDiff, Nat.reduceDiv, Nat.reduceMod, Nat.reduceSub, ↓reduceIte] <;> rfl) | rfl), (by first | (simp only [T.get_n, Nat.reduceEqDiff, Nat.reduceDiv, Nat.reduceMod, Nat.reduceSub, ↓reduceIte] <;> rfl) | rfl), hlow1'.set (Nat.le_refl F), (EqI.refl _ _ _).set (.inl (Nat.lt_succ_self F)) (by omega), by rw [hget_hset, if_pos rfl], by simp, fun v hv => ?_⟩
    rw [List.getElem?_replicate, if_pos hv]; rfl
  rintro nn fr s1 ⟨lc, tt, h2, u, A, rfl, rfl, hu, rfl, hl0, hlc, t6, t7, t24, t25, t26, hlow, hEq, hrA, hCA⟩
  by_cases huN : u < N
  · obtain ⟨b0, o0, eo0, cap0, x, rfl, hb1, hb2, r0, hx⟩ := (hg1.move hEq).at (i := u) (l := iL (outs N E u)) (by rw [List.getElem?_map, gOf_get huN]; rfl)
    rw [hll] at *
    have hol := outs_len N E u
    have hxl := fun (h2 : Heap) => rLen1_L (h2 := h2) Tryz.underlying38 hx.p
    rw [iL_len] at hxl
    repeat' (first
    | with_reducible refine r_seq ?_
    | with_reducible refine r_next ?_
    | with_reducible refine r_block ?_
    | with_reducible refine r_seq_exit ?_
    | with_reducible refine r_seq_ret ?_
    | with_reducible refine r_blk_n ?_
    | with_reducible refine r_blk_ret ?_
    | with_reducible refine r_blk_hit ?_
    | with_reducible refine r_blk_miss rfl ?_
    | with_reducible refine r_skip ?_
    | with_reducible refine r_exit ?_
    | with_reducible refine r_ret ?_
    | with_reducible refine r_rq_exit ?_
    | with_reducible refine r_rq_ret ?_
    | ((with_reducible apply r_regA); (focus (simp only [List.append_eq, List.cons_append, List.nil_append] <;> rfl)); (focus (first | exact Nat.le_of_ble_eq_true rfl | (simp only [List.length_cons, List.length_nil]; omega))))
    | ((with_reducible refine r_reg (List.toList_toArray) ?_ ?_); focus (first | exact Nat.le_of_ble_eq_true rfl | (simp only [List.length_cons, List.length_nil]; omega)))
    | ((with_reducible apply r_drawL); (focus kernel_rfl); (focus kernel_rfl); (focus (first | exact Nat.le_of_ble_eq_true rfl | (simp only [List.length_cons, List.length_nil]; omega))))
    | ((with_reducible apply r_end); focus (simp only [Nat.add_assoc, Nat.reduceAdd, Nat.zero_add] <;> rfl))
    | ((with_reducible (first | apply r_move | apply r_assign)); (focus (simp only [Tget_set, ↓reduceIte] <;> rfl)); (focus (exact Nat.le_of_ble_eq_true rfl)))
    | ((with_reducible apply r_condT); (focus (simp only [Tget_set, ↓reduceIte] <;> rfl)))
    | ((with_reducible (first | apply r_any | apply r_cond)); focus (simp only [↓reduceIte, clsOf, clsCall, Fr.ev, ofV, ofA, ofS, put_mk, pureOp, readOp, rLd, oneCell_one, pBin, binA, intOp_lss, List.getElem?_cons_zero, Nat.reduceLT, Nat.reduceEqDiff, loadA_w, loadW_s, binA, stepOp, stV_mk, sz38, ag38, stepAny, wantedA_none, rCall, rLen, Tget_set, t24, t25, t26, lt_t huN, pIA_s Tryz.underlying78 sz38 huN, r0, hxl] <;> rfl))
    | (with_reducible rw [ifQ_t])
    | (with_reducible rw [ifQ_f])
    | (with_reducible refine ifQ_intro ?_ ?_ <;> intro hb))
    refine r_loop (I := fun nn fr s1 => ∃ lc2 tt2 h3 j A, fr = ⟨F, lc2, 97, tt2, [], .no⟩ ∧ s1 = ⟨h3, F + 1 + 1⟩ ∧ j ≤ (outs N E u).length ∧ nn = (outs N E u).length - j ∧ lc ≤ lc2 ∧ lc2 + nn * 1000 ≤ lc + 900000000 ∧ tt2.get 6 = some (.slice b0 o0 eo0 N cap0) ∧ tt2.get 7 = some (.slice (ky F 8) 0 0 N (some N)) ∧ tt2.get 24 = some (.slice b0 o0 eo0 N cap0) ∧ tt2.get 25 = some (.int .i64 (N : Int)) ∧ tt2.get 26 = some (.int .i64 (u : Int)) ∧ tt2.get 30 = some x ∧ tt2.get 31 = some (.int .i64 ((outs N E u).length : Int)) ∧ tt2.get 32 = some (.int .i64 (j : Int)) ∧ Low F h h3 ∧ EqI (F + 1) (F + 1 + 1) h1 h3 ∧ EqI (F + 1) (F + 1 + 1) h2 h3 ∧ hget h3 (ky F 8) = some (aRow (ints A)) ∧ CA N A (fun v => (sumTo N E u v : Int) + cnt ((outs N E u).take j) v)) (n := (outs N E u).length) ?_ ?_ ?_
    · omega
    · exact ⟨_, _, _, 0, A, rfl, rfl, Nat.zero_le _, (Nat.sub_zero _).symm, by omega, by omega, (by first | (simp only [Tget_set, Nat.reduceEqDiff, ↓reduceIte, t6] <;> rfl) | rfl), (by first | (simp only [Tget_set, Nat.reduceEqDiff, ↓reduceIte, t7] <;> rfl) | rfl), (by first | (simp only [Tget_set, Nat.reduceEqDiff, ↓reduceIte, t24] <;> rfl) | rfl), (by first | (simp only [Tget_set, Nat.reduceEqDiff, ↓reduceIte, t25] <;> rfl) | rfl), (by first | (simp only [Tget_set, Nat.reduceEqDiff, ↓reduceIte, t26] <;> rfl) | rfl), (by first | (simp only [Tget_set, Nat.reduceEqDiff, ↓reduceIte] <;> rfl) | rfl), (by first | (simp only [Tget_set, Nat.reduceEqDiff, ↓reduceIte] <;> rfl) | rfl), (by first | (simp only [Tget_set, ↓reduceIte] <;> rfl) | rfl), hlow, hEq, EqI.refl _ _ _, hrA, hCA.same fun v _ => by rw [List.take_zero, cnt_nil, Int.add_zero]⟩
    rintro nn fr s1 ⟨lc2, tt2, h3, j, A, rfl, rfl, hj, rfl, hl2, hlc2, v6, v7, v24, v25, v26, v30, v31, v32, hlow3, hEq3, hEqx, hrA, hCA⟩
    by_cases hjl : j < (outs N E u).length
    · obtain ⟨b2, o2, eo2, cap2, rfl, hc1, hc2, r2⟩ := num_atI (hx.move hEqx) hjl
      obtain ⟨k, hk, hed⟩ := mem_outs.1 (List.getElem_mem hjl)
      have hjk : (outs N E u)[j]? = some (k : Int) := by rw [List.getElem?_eq_getElem hjl, hk]
      rw [hk] at r2
      have hkN : k < N := hed.2.2
      have rda := rd_n (hCA.2 k hkN)
      have hkA : k < A.length := by rw [hCA.1]; exact hkN
      have hb1 := sumTo_le N E u k
      have hb2 := hNE u hu
      have hb3 := cnt_le ((outs N E u).take j) k
      rw [List.length_take] at hb3
      repeat' (first
      | with_reducible refine r_seq ?_
      | with_reducible refine r_next ?_
      | with_reducible refine r_block ?_
      | with_reducible refine r_seq_exit ?_
      | with_reducible refine r_seq_ret ?_
      | with_reducible refine r_blk_n ?_
      | with_reducible refine r_blk_ret ?_
      | with_reducible refine r_blk_hit ?_
      | with_reducible refine r_blk_miss rfl ?_
      | with_reducible refine r_skip ?_
      | with_reducible refine r_exit ?_
      | with_reducible refine r_ret ?_
      | with_reducible refine r_rq_exit ?_
      | with_reducible refine r_rq_ret ?_
      | ((with_reducible apply r_regA); (focus (simp only [List.append_eq, List.cons_append, List.nil_append] <;> rfl)); (focus (first | exact Nat.le_of_ble_eq_true rfl | (simp only [List.length_cons, List.length_nil]; omega))))
      | ((with_reducible refine r_reg (List.toList_toArray) ?_ ?_); focus (first | exact Nat.le_of_ble_eq_true rfl | (simp only [List.length_cons, List.length_nil]; omega)))
      | ((with_reducible apply r_drawL); (focus kernel_rfl); (focus kernel_rfl); (focus (first | exact Nat.le_of_ble_eq_true rfl | (simp only [List.length_cons, List.length_nil]; omega))))
      | ((with_reducible apply r_end); focus (simp only [Nat.add_assoc, Nat.reduceAdd, Nat.zero_add] <;> rfl))
      | ((with_reducible (first | apply r_move | apply r_assign)); (focus (simp only [Tget_set, Nat.reduceEqDiff, ↓reduceIte, v7] <;> rfl)); (focus (exact Nat.le_of_ble_eq_true rfl)))
      | ((with_reducible apply r_condT); (focus (simp only [Tget_set, ↓reduceIte] <;> rfl)))
      | ((with_reducible (first | apply r_any | apply r_cond)); focus (simp only [↓reduceIte, clsOf, Fr.ev, ofV, ofA, ofS, AV.cells, put_mk, put_none, pureOp, readOp, rLd, oneCell_one, pBin, binA, intOp_lss, List.length_cons, List.length_nil, Nat.zero_add, Nat.reduceLT, Nat.reduceEqDiff, loadA_w, loadW_s, aSt_w, stOut_s, actOp, binA, stepOp, stHeavy, stV_mk, stO_mk, sz2, ag2, sz3, ag3, stepAny, wantedA_none, Tget_set, v30, v31, v32, lt_t hjl, pIA_s Tryz.underlying38 sz2 hjl, r2, pIA_s Tryz.underlying80 sz3 hkN, hrA, rda, intOp_add (show inR ((sumTo N E u k : Int) + cnt ((outs N E u).take j) k + 1) by unfold inR; omega), wr_n hkA, intOp_add (inR_succ hjl (show (outs N E u).length ≤ maxLen by omega))] <;> rfl))
      | (with_reducible rw [ifQ_t])
      | (with_reducible rw [ifQ_f])
      | (with_reducible refine ifQ_intro ?_ ?_ <;> intro hb))
      exact r_rq_n (k := (outs N E u).length - (j + 1)) (by omega) ⟨_, _, _, j + 1, _, rfl, rfl, by omega, rfl, by omega, by omega, (by first | (simp only [Tget_set, Nat.reduceEqDiff, ↓reduceIte, v6] <;> rfl) | rfl), (by first | (simp only [Tget_set, Nat.reduceEqDiff, ↓reduceIte, v7] <;> rfl) | rfl), (by first | (simp only [Tget_set, Nat.reduceEqDiff, ↓reduceIte, v24] <;> rfl) | rfl), (by first | (simp only [Tget_set, Nat.reduceEqDiff, ↓reduceIte, v25] <;> rfl) | rfl), (by first | (simp only [Tget_set, Nat.reduceEqDiff, ↓reduceIte, v26] <;> rfl) | rfl), (by first | (simp only [Tget_set, Nat.reduceEqDiff, ↓reduceIte, v30] <;> rfl) | rfl), (by first | (simp only [Tget_set, Nat.reduceEqDiff, ↓reduceIte, v31] <;> rfl) | rfl), (by first | (simp only [Tget_set, ↓reduceIte] <;> rfl) | rfl), hlow3.set (Nat.le_refl F), hEq3.set (.inl (Nat.lt_succ_self F)) (by omega), hEqx.set (.inl (Nat.lt_succ_self F)) (by omega), by rw [hget_hset, if_pos rfl], hCA.add hkN fun v _ => by rw [cnt_succ hjk v, Int.add_assoc]⟩
    · have hend : j = (outs N E u).length := by omega
      repeat' (first
      | with_reducible refine r_seq ?_
      | with_reducible refine r_next ?_
      | with_reducible refine r_block ?_
      | with_reducible refine r_seq_exit ?_
      | with_reducible refine r_seq_ret ?_
      | with_reducible refine r_blk_n ?_
      | with_reducible refine r_blk_ret ?_
      | with_reducible refine r_blk_hit ?_
      | with_reducible refine r_blk_miss rfl ?_
      | with_reducible refine r_skip ?_
      | with_reducible refine r_exit ?_
      | with_reducible refine r_ret ?_
      | with_reducible refine r_rq_exit ?_
      | with_reducible refine r_rq_ret ?_
      | ((with_reducible apply r_regA); (focus (simp only [List.append_eq, List.cons_append, List.nil_append] <;> rfl)); (focus (first | exact Nat.le_of_ble_eq_true rfl | (simp only [List.length_cons, List.length_nil]; omega))))
      | ((with_reducible refine r_reg (List.toList_toArray) ?_ ?_); focus (first | exact Nat.le_of_ble_eq_true rfl | (simp only [List.length_cons, List.length_nil]; omega)))
      | ((with_reducible apply r_drawL); (focus kernel_rfl); (focus kernel_rfl); (focus (first | exact Nat.le_of_ble_eq_true rfl | (simp only [List.length_cons, List.length_nil]; omega))))
      | ((with_reducible apply r_end); focus (simp only [Nat.add_assoc, Nat.reduceAdd, Nat.zero_add] <;> rfl))
      | ((with_reducible (first | apply r_move | apply r_assign)); (focus (simp only [Tget_set, ↓reduceIte] <;> rfl)); (focus (exact Nat.le_of_ble_eq_true rfl)))
      | ((with_reducible apply r_condT); (focus (simp only [Tget_set, ↓reduceIte] <;> rfl)))
      | ((with_reducible (first | apply r_any | apply r_cond)); focus (simp only [↓reduceIte, clsOf, Fr.ev, ofV, ofA, ofS, put_mk, pureOp, pBin, binA, intOp_lss, Nat.reduceLT, Nat.reduceEqDiff, binA, stepOp, stV_mk, stepAny, wantedA_none, Tget_set, v26, v31, v32, lt_f hjl, intOp_add (inR_succ huN (show N ≤ maxLen by omega))] <;> rfl))
      | (with_reducible rw [ifQ_t])
      | (with_reducible rw [ifQ_f])
      | (with_reducible refine ifQ_intro ?_ ?_ <;> intro hb))
      refine r_rq_n (k := N - (u + 1)) (by omega) ⟨_, _, _, u + 1, A, rfl, rfl, by omega, rfl, by omega, by omega, (by first | (simp only [Tget_set, Nat.reduceEqDiff, ↓reduceIte, v6] <;> rfl) | rfl), (by first | (simp only [Tget_set, Nat.reduceEqDiff, ↓reduceIte, v7] <;> rfl) | rfl), (by first | (simp only [Tget_set, Nat.reduceEqDiff, ↓reduceIte, v24] <;> rfl) | rfl), (by first | (simp only [Tget_set, Nat.reduceEqDiff, ↓reduceIte, v25] <;> rfl) | rfl), (by first | (simp only [Tget_set, ↓reduceIte] <;> rfl) | rfl), hlow3, hEq3, hrA, hCA.same fun v _ => ?_⟩
      rw [hend, List.take_length, sumTo_succ]
  have huN' : u = N := by omega
  rw [huN'] at hCA
  have hCA0 : CA N A (fun v => (ahd N E (List.replicate N false) v : Int)) := hCA.same fun v _ => by rw [ahd_start]
  repeat' (first
  | with_reducible refine r_seq ?_
  | with_reducible refine r_next ?_
  | with_reducible refine r_block ?_
  | with_reducible refine r_seq_exit ?_
  | with_reducible refine r_seq_ret ?_
  | with_reducible refine r_blk_n ?_
  | with_reducible refine r_blk_ret ?_
  | with_reducible refine r_blk_hit ?_
  | with_reducible refine r_blk_miss rfl ?_
  | with_reducible refine r_skip ?_
  | with_reducible refine r_exit ?_
  | with_reducible refine r_ret ?_
  | with_reducible refine r_rq_exit ?_
  | with_reducible refine r_rq_ret ?_
  | ((with_reducible apply r_regA); (focus (simp only [List.append_eq, List.cons_append, List.nil_append] <;> rfl)); (focus (first | exact Nat.le_of_ble_eq_true rfl | (simp only [List.length_cons, List.length_nil]; omega))))
  | ((with_reducible refine r_reg (List.toList_toArray) ?_ ?_); focus (first | exact Nat.le_of_ble_eq_true rfl | (simp only [List.length_cons, List.length_nil]; omega)))
  | ((with_reducible apply r_drawL); (focus kernel_rfl); (focus kernel_rfl); (focus (first | exact Nat.le_of_ble_eq_true rfl | (simp only [List.length_cons, List.length_nil]; omega))))
  | ((with_reducible apply r_end); focus (simp only [Nat.add_assoc, Nat.reduceAdd, Nat.zero_add] <;> rfl))
  | ((with_reducible (first | apply r_move | apply r_assign)); (focus (simp only [Tget_set, Nat.reduceEqDiff, ↓reduceIte, t6] <;> rfl)); (focus (exact Nat.le_of_ble_eq_true rfl)))
  | ((with_reducible apply r_condT); (focus (simp only [Tget_set, ↓reduceIte] <;> rfl)))
  | ((with_reducible (first | apply r_any | apply r_cond)); focus (simp only [↓reduceIte, clsOf, clsCall, newBlk, allocOp, Fr.ev, ofV, ofA, ofS, put_mk, upd_mk, keyOf_mk, pureOp, readOp, pBin, binA, intOp_lss, List.getElem?_cons_zero, Nat.zero_add, Nat.reduceAdd, Nat.reduceLT, binA, stepOp, stV_mk, stB_mk, Tryz.underlying81, stepAny, wantedA_none, rCall, rLen, Tget_set, t25, t26, hgl, lt_f huN, nMS_b sz4 by4 zr4 (show 1 * N ≤ 1073741824 by omega) (show N ≤ 1073741824 by omega)] <;> rfl))
  | (with_reducible rw [ifQ_t])
  | (with_reducible rw [ifQ_f])
  | (with_reducible refine ifQ_intro ?_ ?_ <;> intro hb))
  refine r_loop (I := fun nn fr s1 => ∃ lc2 tt2 h3 k D o lo A, fr = ⟨F, lc2, 97, tt2, [], .no⟩ ∧ s1 = ⟨h3, F + 1 + 1⟩ ∧ k ≤ N ∧ nn = N - k ∧ lc + 3 < lc2 ∧ lc2 + nn * 1000000000 ≤ 200000000000000000000000000 ∧ tt2.get 6 = some g ∧ tt2.get 7 = some (.slice (ky F 8) 0 0 N (some N)) ∧ tt2.get 12 = some (.slice (ky F (lc + 1 + 2)) 0 0 N (some N)) ∧ tt2.get 13 = some lo ∧ Low F h h3 ∧ EqI (F + 1) (F + 1 + 1) h1 h3 ∧ hget h3 (ky F 8) = some (aRow (ints A)) ∧ hget h3 (ky F (lc + 1 + 2)) = some (bRow D) ∧ CA N A (fun v => (ahd N E D v : Int)) ∧ ordN N E k = some (D, o) ∧ IL h3 F lc2 lo o ∧ Off (ky F 8) lo) (n := N) ?_ ?_ ?_
  · omega
  · exact ⟨_, _, _, 0, List.replicate N false, [], .nils, A, rfl, rfl, Nat.zero_le _, (Nat.sub_zero _).symm, by omega, by omega, (by first | (simp only [Tget_set, Nat.reduceEqDiff, ↓reduceIte, t6] <;> rfl) | rfl), (by first | (simp only [Tget_set, Nat.reduceEqDiff, ↓reduceIte, t7] <;> rfl) | rfl), (by first | (simp only [Tget_set, Nat.reduceEqDiff, ↓reduceIte] <;> rfl) | rfl), (by first | (simp only [Tget_set, ↓reduceIte] <;> rfl) | rfl), hlow.set (Nat.le_refl F), hEq.set (.inl (Nat.lt_succ_self F)) (by omega), by rw [hget_hset, if_neg (by rw [ky_inj]; omega)]; exact hrA, by rw [hget_hset, if_pos rfl], hCA0, rfl, IL.nil, Off.nils⟩
  rintro nn fr s1 ⟨lc2, tt2, h3, k, D, o, lo, A, rfl, rfl, hk, rfl, hl2, hlc2, w6, w7, w12, w13, hlow3, hEq3, hrA, hrD, hCA, hD, hI, hOff⟩
  have hOI := ordN_inv hD
  have hol2 := hOI.size
  have hDl := hOI.len
  have hlen : rLen1 Tryz.prog h3 38 (some lo) = some (.int .i64 (k : Int)) := by rw [← hol2]; exact il_rlen Tryz.underlying38 hI
  by_cases hkN : k < N
  · repeat' (first
    | with_reducible refine r_seq ?_
    | with_reducible refine r_next ?_
    | with_reducible refine r_block ?_
    | with_reducible refine r_seq_exit ?_
    | with_reducible refine r_seq_ret ?_
    | with_reducible refine r_blk_n ?_
    | with_reducible refine r_blk_ret ?_
    | with_reducible refine r_blk_hit ?_
    | with_reducible refine r_blk_miss rfl ?_
    | with_reducible refine r_skip ?_
    | with_reducible refine r_exit ?_
    | with_reducible refine r_ret ?_
    | with_reducible refine r_rq_exit ?_
    | with_reducible refine r_rq_ret ?_
    | ((with_reducible apply r_regA); (focus (simp only [List.append_eq, List.cons_append, List.nil_append] <;> rfl)); (focus (first | exact Nat.le_of_ble_eq_true rfl | (simp only [List.length_cons, List.length_nil]; omega))))
    | ((with_reducible refine r_reg (List.toList_toArray) ?_ ?_); focus (first | exact Nat.le_of_ble_eq_true rfl | (simp only [List.length_cons, List.length_nil]; omega)))
    | ((with_reducible apply r_drawL); (focus kernel_rfl); (focus kernel_rfl); (focus (first | exact Nat.le_of_ble_eq_true rfl | (simp only [List.length_cons, List.length_nil]; omega))))
    | ((with_reducible apply r_end); focus (simp only [Nat.add_assoc, Nat.reduceAdd, Nat.zero_add] <;> rfl))
    | ((with_reducible (first | apply r_move | apply r_assign)); (focus (simp only [Tget_set, Nat.reduceEqDiff, ↓reduceIte] <;> rfl)); (focus (exact Nat.le_of_ble_eq_true rfl)))
    | ((with_reducible apply r_condT); (focus (simp only [Tget_set, ↓reduceIte] <;> rfl)))
    | ((with_reducible (first | apply r_any | apply r_cond)); focus (simp only [↓reduceIte, clsOf, clsCall, Fr.ev, ofV, ofA, ofS, put_mk, pureOp, readOp, pBin, binA, intOp_lss, List.getElem?_cons_zero, Nat.reduceLT, Nat.reduceEqDiff, binA, Int.reduceNeg, stepOp, stV_mk, stepAny, wantedA_none, rCall, rLen, Tget_set, w6, w13, hlen, hgl, lt_t hkN] <;> rfl))
    | (with_reducible rw [ifQ_t])
    | (with_reducible rw [ifQ_f])
    | (with_reducible refine ifQ_intro ?_ ?_ <;> intro hb))
    refine r_loop (I := fun nn fr s1 => ∃ lc3 tt3 v, fr = ⟨F, lc3, 97, tt3, [], .no⟩ ∧ s1 = ⟨h3, F + 1 + 1⟩ ∧ v ≤ N ∧ nn = N - v ∧ lc2 ≤ lc3 ∧ lc3 + nn * 1000 ≤ lc2 + 900000 ∧ tt3.get 6 = some g ∧ tt3.get 7 = some (.slice (ky F 8) 0 0 N (some N)) ∧ tt3.get 12 = some (.slice (ky F (lc + 1 + 2)) 0 0 N (some N)) ∧ tt3.get 13 = some lo ∧ tt3.get 14 = some (.int .i64 (-1)) ∧ tt3.get 53 = some (.int .i64 (N : Int)) ∧ tt3.get 54 = some (.int .i64 (v : Int)) ∧ ∀ w, w < v → ¬ free N E D w) (n := N) ?_ ?_ ?_
    · omega
    · exact ⟨_, _, 0, rfl, rfl, Nat.zero_le _, (Nat.sub_zero _).symm, by omega, by omega, (by first | (simp only [Tget_set, Nat.reduceEqDiff, ↓reduceIte, w6] <;> rfl) | rfl), (by first | (simp only [Tget_set, Nat.reduceEqDiff, ↓reduceIte, w7] <;> rfl) | rfl), (by first | (simp only [Tget_set, Nat.reduceEqDiff, ↓reduceIte, w12] <;> rfl) | rfl), (by first | (simp only [Tget_set, Nat.reduceEqDiff, ↓reduceIte, w13] <;> rfl) | rfl), (by first | (simp only [Tget_set, Nat.reduceEqDiff, ↓reduceIte] <;> rfl) | rfl), (by first | (simp only [Tget_set, Nat.reduceEqDiff, ↓reduceIte] <;> rfl) | rfl), (by first | (simp only [Tget_set, ↓reduceIte] <;> rfl) | rfl), fun w hw => by omega⟩
    rintro nn fr s1 ⟨lc3, tt3, v, rfl, rfl, hv, rfl, hl3, hlc3, x6, x7, x12, x13, x14, x53, x54, hno⟩
    by_cases hvl : v < N
    · obtain ⟨vD, hvD⟩ : ∃ w, D[v]? = some w := ⟨D[v]'(by omega), by simp⟩
      have rdv := rd_b hvD
      cases vD with
      | true =>
        have hnf : ¬ free N E D v := fun hf => by have := hvD.symm.trans hf.1; cases this
        repeat' (first
        | with_reducible refine r_seq ?_
        | with_reducible refine r_next ?_
        | with_reducible refine r_block ?_
        | with_reducible refine r_seq_exit ?_
        | with_reducible refine r_seq_ret ?_
        | with_reducible refine r_blk_n ?_
        | with_reducible refine r_blk_ret ?_
        | with_reducible refine r_blk_hit ?_
        | with_reducible refine r_blk_miss rfl ?_
        | with_reducible refine r_skip ?_
        | with_reducible refine r_exit ?_
        | with_reducible refine r_ret ?_
        | with_reducible refine r_rq_exit ?_
        | with_reducible refine r_rq_ret ?_
        | ((with_reducible apply r_regA); (focus (simp only [List.append_eq, List.cons_append, List.nil_append] <;> rfl)); (focus (first | exact Nat.le_of_ble_eq_true rfl | (simp only [List.length_cons, List.length_nil]; omega))))
        | ((with_reducible refine r_reg (List.toList_toArray) ?_ ?_); focus (first | exact Nat.le_of_ble_eq_true rfl | (simp only [List.length_cons, List.length_nil]; omega)))
        | ((with_reducible apply r_drawL); (focus kernel_rfl); (focus kernel_rfl); (focus (first | exact Nat.le_of_ble_eq_true rfl | (simp only [List.length_cons, List.length_nil]; omega))))
        | ((with_reducible apply r_end); focus (simp only [Nat.add_assoc, Nat.reduceAdd, Nat.zero_add] <;> rfl))
        | ((with_reducible (first | apply r_move | apply r_assign)); (focus (simp only [Tget_set, Nat.reduceEqDiff, ↓reduceIte] <;> rfl)); (focus (exact Nat.le_of_ble_eq_true rfl)))
        | ((with_reducible apply r_condT); (focus (simp only [Tget_set, ↓reduceIte] <;> rfl)))
        | ((with_reducible (first | apply r_any | apply r_cond)); focus (simp only [↓reduceIte, wantedA_eq, gBool_t, Bool.not_true, clsOf, Fr.ev, ofV, ofA, ofS, put_mk, pureOp, readOp, rLd, oneCell_one, pBin, binA, intOp_lss, pPick, List.getElem?_cons_zero, List.getElem?_cons_succ, Nat.zero_add, Nat.reduceLT, Nat.reduceEqDiff, loadA_w, loadW_s, pUn_not, binA, stepOp, stV_mk, sz4, ag4, stepAny, wantedA_none, Tget_set, x12, x53, x54, lt_t hvl, pIA_s Tryz.underlying81 sz4 hvl, hrD, rdv, intOp_add (inR_succ hvl (show N ≤ maxLen by omega))] <;> rfl))
        | (with_reducible rw [ifQ_t])
        | (with_reducible rw [ifQ_f])
        | (with_reducible refine ifQ_intro ?_ ?_ <;> intro hb))
        exact r_rq_n (k := N - (v + 1)) (by omega) ⟨_, _, v + 1, rfl, rfl, by omega, rfl, by omega, by omega, (by first | (simp only [Tget_set, Nat.reduceEqDiff, ↓reduceIte, x6] <;> rfl) | rfl), (by first | (simp only [Tget_set, Nat.reduceEqDiff, ↓reduceIte, x7] <;> rfl) | rfl), (by first | (simp only [Tget_set, Nat.reduceEqDiff, ↓reduceIte, x12] <;> rfl) | rfl), (by first | (simp only [Tget_set, Nat.reduceEqDiff, ↓reduceIte, x13] <;> rfl) | rfl), (by first | (simp only [Tget_set, Nat.reduceEqDiff, ↓reduceIte, x14] <;> rfl) | rfl), (by first | (simp only [Tget_set, Nat.reduceEqDiff, ↓reduceIte, x53] <;> rfl) | rfl), (by first | (simp only [Tget_set, ↓reduceIte] <;> rfl) | rfl), fun w hw => by
          rcases Nat.lt_or_ge w v with q | q
          · exact hno w q
          · rw [show w = v by omega]; exact hnf⟩
      | false =>
        have rda := rd_n (hCA.2 v hvl)
        have hfz := ahd_free (E := E) hvD hvl
        by_cases hz : ahd N E D v = 0
        · have hfr := hfz.2 hz
          have hnx := nextF_is hvl hfr hno
          have hD2 : ordN N E (k + 1) = some (D.set v true, o ++ [(v : Int)]) := by simp only [ordN, hD, hnx]
          have hzt : (((ahd N E D v : Nat) : Int) == 0) = true := beq_iff_eq.2 (by omega)
          have hvb : v < D.length := by omega
          have hIs := (il_setb (b' := bRow (D.set v true)) hI hrD).up (show lc2 ≤ lc3 by omega)
          have ap := fun (key : Nat) => app_ints2 (P := Tryz.prog) (key := key) (f := F + 1 + 1) (a := 23) (b := 2) (x := (v : Int)) (cap := some 1) Tryz.underlying38 sz2 by2 zo2 (by omega) hIs (show o.length ≤ 1000 by omega)
          obtain ⟨b0, o0, eo0, cap0, x, rfl, hb1, hb2, r0, hx⟩ := (hg1.move hEq3).at (i := v) (l := iL (outs N E v)) (by rw [List.getElem?_map, gOf_get hvl]; rfl)
          rw [hll] at *
          have hol := outs_len N E v
          have hxl := fun (h2 : Heap) => rLen1_L (h2 := h2) Tryz.underlying38 hx.p
          rw [iL_len] at hxl
          have hoff := off_ne hb1 hb2 (.inl (Nat.lt_succ_self F))
          have n1 := hoff (lc + 1 + 2) (by omega)
          have n2 := hoff (lc3 + 23 + 2) (by omega)
          have n3 := hoff (lc3 + 23 + 3) (by omega)
          have hk0 := fun (h' : Heap) => (hI.off (fun c hc => hoff c (by omega))).kill (h := h')
          repeat' (first
          | with_reducible refine r_seq ?_
          | with_reducible refine r_next ?_
          | with_reducible refine r_block ?_
          | with_reducible refine r_seq_exit ?_
          | with_reducible refine r_seq_ret ?_
          | with_reducible refine r_blk_n ?_
          | with_reducible refine r_blk_ret ?_
          | with_reducible refine r_blk_hit ?_
          | with_reducible refine r_blk_miss rfl ?_
          | with_reducible refine r_skip ?_
          | with_reducible refine r_exit ?_
          | with_reducible refine r_ret ?_
          | with_reducible refine r_rq_exit ?_
          | with_reducible refine r_rq_ret ?_
          | ((with_reducible apply r_regA); (focus (simp only [List.append_eq, List.cons_append, List.nil_append] <;> rfl)); (focus (first | exact Nat.le_of_ble_eq_true rfl | (simp only [List.length_cons, List.length_nil]; omega))))
          | ((with_reducible refine r_reg (List.toList_toArray) ?_ ?_); focus (first | exact Nat.le_of_ble_eq_true rfl | (simp only [List.length_cons, List.length_nil]; omega)))
          | ((with_reducible apply r_drawL); (focus kernel_rfl); (focus kernel_rfl); (focus (first | exact Nat.le_of_ble_eq_true rfl | (simp only [List.length_cons, List.length_nil]; omega))))
          | ((with_reducible apply r_end); focus (simp only [Nat.add_assoc, Nat.reduceAdd, Nat.zero_add] <;> rfl))
          | ((with_reducible (first | apply r_move | apply r_assign)); (focus (simp only [Tget_set, Nat.reduceEqDiff, ↓reduceIte] <;> rfl)); (focus (exact Nat.le_of_ble_eq_true rfl)))
          | ((with_reducible apply r_condT); (focus (simp only [Tget_set, ↓reduceIte] <;> rfl)))
          | ((with_reducible (first | apply r_any | apply r_cond)); focus (simp only [↓reduceIte, wantedA_eq, gBool_t, Bool.not_false, clsOf, clsCall, newBlk, allocOp, Fr.ev, evParts, ofV, ofA, ofS, AV.cells, put_mk, put_none, upd_mk, keyOf_mk, pureOp, readOp, rLd, oneCell_one, hget_hset_ite, pBin, binA, intOp_eql, intOp_lss, pPick, List.length_cons, List.length_nil, List.getElem?_cons_zero, List.getElem?_cons_succ, Nat.zero_add, Nat.reduceAdd, Nat.reduceLT, Nat.reduceEqDiff, loadA_w, loadW_s, aSt_w, stOut_s, pUn_not, heavyCall, actOp, binA, stepOp, stHeavy, stV_mk, stB_mk, stO_mk, sz3, ag3, sz4, ag4, sz38, ag38, Tryz.underlying38, stepAny, wantedA_none, rCall, rLen, Tget_set, x6, x7, x12, x13, x53, x54, lt_t hvl, pIA_s Tryz.underlying81 sz4 hvl, hrD, rdv, pIA_s Tryz.underlying80 sz3 hvl, hrA, rda, hzt, ls_f (show ¬ (v : Int) < 0 by omega), wr_b hvb, nBS_int sz2 zr2, aBuiltin, aApp, aApp2, ap, outOf, pIA_s Tryz.underlying78 sz38 hvl, n1, n2, n3, hk0, r0, hxl] <;> rfl))
          | (with_reducible rw [ifQ_t])
          | (with_reducible rw [ifQ_f])
          | (with_reducible refine ifQ_intro ?_ ?_ <;> intro hb))
          have hIe : IL h3 F lc2 lo o := hI
          have hEqx : EqI (F + 1) (F + 1 + 1) h3 (hset (kill (hset (hset h3 (ky F (lc + 1 + 2)) (bRow (D.set v true))) (ky F (lc3 + 23 + 2)) (mkRow [.int .i64 (v : Int)] 1)) lo) (ky F (lc3 + 23 + 3)) (mkRow (ints (o ++ [(v : Int)])) 1)) := (((((EqI.refl _ _ _).set (.inl (Nat.lt_succ_self F)) (by omega)).set (.inl (Nat.lt_succ_self F)) (by omega)).kill hI (.inl (Nat.lt_succ_self F)) (by omega)).set (.inl (Nat.lt_succ_self F)) (by omega))
          refine r_loop (I := fun nn fr s1 => ∃ lc4 tt4 h4 j A, fr = ⟨F, lc4, 97, tt4, [], .no⟩ ∧ s1 = ⟨h4, F + 1 + 1⟩ ∧ j ≤ (outs N E v).length ∧ nn = (outs N E v).length - j ∧ lc3 + 30 < lc4 ∧ lc4 + nn * 1000 ≤ lc3 + 400000 ∧ tt4.get 6 = some (.slice b0 o0 eo0 N cap0) ∧ tt4.get 7 = some (.slice (ky F 8) 0 0 N (some N)) ∧ tt4.get 12 = some (.slice (ky F (lc + 1 + 2)) 0 0 N (some N)) ∧ tt4.get 13 = some (.slice (ky F (lc3 + 23 + 3)) 0 0 (o ++ [(v : Int)]).length none) ∧ tt4.get 83 = some x ∧ tt4.get 84 = some (.int .i64 ((outs N E v).length : Int)) ∧ tt4.get 85 = some (.int .i64 (j : Int)) ∧ Low F h h4 ∧ EqI (F + 1) (F + 1 + 1) h3 h4 ∧ hget h4 (ky F 8) = some (aRow (ints A)) ∧ hget h4 (ky F (lc + 1 + 2)) = some (bRow (D.set v true)) ∧ CA N A (fun w => (ahd N E D w : Int) - cnt ((outs N E v).take j) w) ∧ IL h4 F lc4 (.slice (ky F (lc3 + 23 + 3)) 0 0 (o ++ [(v : Int)]).length none) (o ++ [(v : Int)])) (n := (outs N E v).length) ?_ ?_ ?_
          · omega
          · refine ⟨_, _, _, 0, A, rfl, rfl, Nat.zero_le _, (Nat.sub_zero _).symm, by omega, by omega, (by first | (simp only [Tget_set, Nat.reduceEqDiff, ↓reduceIte, x6] <;> rfl) | rfl), (by first | (simp only [Tget_set, Nat.reduceEqDiff, ↓reduceIte, x7] <;> rfl) | rfl), (by first | (simp only [Tget_set, Nat.reduceEqDiff, ↓reduceIte, x12] <;> rfl) | rfl), (by first | (simp only [Tget_set, Nat.reduceEqDiff, ↓reduceIte] <;> rfl) | rfl), (by first | (simp only [Tget_set, Nat.reduceEqDiff, ↓reduceIte] <;> rfl) | rfl), (by first | (simp only [Tget_set, Nat.reduceEqDiff, ↓reduceIte] <;> rfl) | rfl), (by first | (simp only [Tget_set, ↓reduceIte] <;> rfl) | rfl), ?_, hEqx, ?_, ?_, hCA.same fun w _ => by rw [List.take_zero, cnt_nil, Int.sub_zero], IL.new' (by omega) rfl⟩
            · exact (((hlow3.set (Nat.le_refl F)).set (Nat.le_refl F)).kill hI).set (Nat.le_refl F)
            · rw [hget_hset, if_neg (by rw [ky_inj]; omega), hOff.kill, hget_hset, if_neg (by rw [ky_inj]; omega), hget_hset, if_neg (by rw [ky_inj]; omega)]; exact hrA
            · rw [hget_hset, if_neg (by rw [ky_inj]; omega), kill_get hI hrD, hget_hset, if_neg (by rw [ky_inj]; omega), hget_hset, if_pos rfl]
          rintro nn fr s1 ⟨lc4, tt4, h4, j, A, rfl, rfl, hj, rfl, hl4, hlc4, y6, y7, y12, y13, y83, y84, y85, hlow4, hEq4, hrA, hrD2, hCA, hI4⟩
          by_cases hjl : j < (outs N E v).length
          · obtain ⟨b2, o2, eo2, cap2, rfl, hc1, hc2, r2⟩ := num_atI (hx.move hEq4) hjl
            obtain ⟨q, hq, hed⟩ := mem_outs.1 (List.getElem_mem hjl)
            have hjk : (outs N E v)[j]? = some (q : Int) := by rw [List.getElem?_eq_getElem hjl, hq]
            rw [hq] at r2
            have hqN : q < N := hed.2.2
            have rda := rd_n (hCA.2 q hqN)
            have hqA : q < A.length := by rw [hCA.1]; exact hqN
            have hb1 := ahd_le N E D q
            have hb2 := hNE N (Nat.le_refl N)
            have hb3 := cnt_le ((outs N E v).take j) q
            rw [List.length_take] at hb3
            repeat' (first
            | with_reducible refine r_seq ?_
            | with_reducible refine r_next ?_
            | with_reducible refine r_block ?_
            | with_reducible refine r_seq_exit ?_
            | with_reducible refine r_seq_ret ?_
            | with_reducible refine r_blk_n ?_
            | with_reducible refine r_blk_ret ?_
            | with_reducible refine r_blk_hit ?_
            | with_reducible refine r_blk_miss rfl ?_
            | with_reducible refine r_skip ?_
            | with_reducible refine r_exit ?_
            | with_reducible refine r_ret ?_
            | with_reducible refine r_rq_exit ?_
            | with_reducible refine r_rq_ret ?_
            | ((with_reducible apply r_regA); (focus (simp only [List.append_eq, List.cons_append, List.nil_append] <;> rfl)); (focus (first | exact Nat.le_of_ble_eq_true rfl | (simp only [List.length_cons, List.length_nil]; omega))))
            | ((with_reducible refine r_reg (List.toList_toArray) ?_ ?_); focus (first | exact Nat.le_of_ble_eq_true rfl | (simp only [List.length_cons, List.length_nil]; omega)))
            | ((with_reducible apply r_drawL); (focus kernel_rfl); (focus kernel_rfl); (focus (first | exact Nat.le_of_ble_eq_true rfl | (simp only [List.length_cons, List.length_nil]; omega))))
            | ((with_reducible apply r_end); focus (simp only [Nat.add_assoc, Nat.reduceAdd, Nat.zero_add] <;> rfl))
            | ((with_reducible (first | apply r_move | apply r_assign)); (focus (simp only [Tget_set, Nat.reduceEqDiff, ↓reduceIte] <;> rfl)); (focus (exact Nat.le_of_ble_eq_true rfl)))
            | ((with_reducible apply r_condT); (focus (simp only [Tget_set, ↓reduceIte] <;> rfl)))
            | ((with_reducible (first | apply r_any | apply r_cond)); focus (simp only [↓reduceIte, clsOf, Fr.ev, ofV, ofA, ofS, AV.cells, put_mk, put_none, pureOp, readOp, rLd, oneCell_one, pBin, binA, intOp_lss, List.length_cons, List.length_nil, Nat.zero_add, Nat.reduceLT, Nat.reduceEqDiff, loadA_w, loadW_s, aSt_w, stOut_s, actOp, binA, stepOp, stHeavy, stV_mk, stO_mk, sz2, ag2, sz3, ag3, stepAny, wantedA_none, Tget_set, y7, y83, y84, y85, lt_t hjl, pIA_s Tryz.underlying38 sz2 hjl, r2, pIA_s Tryz.underlying80 sz3 hqN, hrA, rda, intOp_sub (show inR ((ahd N E D q : Int) - cnt ((outs N E v).take j) q - 1) by unfold inR; omega), wr_n hqA, intOp_add (inR_succ hjl (show (outs N E v).length ≤ maxLen by omega))] <;> rfl))
            | (with_reducible rw [ifQ_t])
            | (with_reducible rw [ifQ_f])
            | (with_reducible refine ifQ_intro ?_ ?_ <;> intro hb))
            exact r_rq_n (k := (outs N E v).length - (j + 1)) (by omega) ⟨_, _, _, j + 1, _, rfl, rfl, by omega, rfl, by omega, by omega, (by first | (simp only [Tget_set, Nat.reduceEqDiff, ↓reduceIte, y6] <;> rfl) | rfl), (by first | (simp only [Tget_set, Nat.reduceEqDiff, ↓reduceIte, y7] <;> rfl) | rfl), (by first | (simp only [Tget_set, Nat.reduceEqDiff, ↓reduceIte, y12] <;> rfl) | rfl), (by first | (simp only [Tget_set, Nat.reduceEqDiff, ↓reduceIte, y13] <;> rfl) | rfl), (by first | (simp only [Tget_set, Nat.reduceEqDiff, ↓reduceIte, y83] <;> rfl) | rfl), (by first | (simp only [Tget_set, Nat.reduceEqDiff, ↓reduceIte, y84] <;> rfl) | rfl), (by first | (simp only [Tget_set, ↓reduceIte] <;> rfl) | rfl), hlow4.set (Nat.le_refl F), hEq4.set (.inl (Nat.lt_succ_self F)) (by omega), by rw [hget_hset, if_pos rfl], by rw [hget_hset, if_neg (by rw [ky_inj]; omega)]; exact hrD2, hCA.sub hqN fun w _ => by rw [cnt_succ hjk w, Int.sub_sub], (hI4.setO (Off.new (by rw [ne_eq, ky_inj]; omega))).up (by omega)⟩
          · have hend : j = (outs N E v).length := by omega
            repeat' (first
            | with_reducible refine r_seq ?_
            | with_reducible refine r_next ?_
            | with_reducible refine r_block ?_
            | with_reducible refine r_seq_exit ?_
            | with_reducible refine r_seq_ret ?_
            | with_reducible refine r_blk_n ?_
            | with_reducible refine r_blk_ret ?_
            | with_reducible refine r_blk_hit ?_
            | with_reducible refine r_blk_miss rfl ?_
            | with_reducible refine r_skip ?_
            | with_reducible refine r_exit ?_
            | with_reducible refine r_ret ?_
            | with_reducible refine r_rq_exit ?_
            | with_reducible refine r_rq_ret ?_
            | ((with_reducible apply r_regA); (focus (simp only [List.append_eq, List.cons_append, List.nil_append] <;> rfl)); (focus (first | exact Nat.le_of_ble_eq_true rfl | (simp only [List.length_cons, List.length_nil]; omega))))
            | ((with_reducible refine r_reg (List.toList_toArray) ?_ ?_); focus (first | exact Nat.le_of_ble_eq_true rfl | (simp only [List.length_cons, List.length_nil]; omega)))
            | ((with_reducible apply r_drawL); (focus kernel_rfl); (focus kernel_rfl); (focus (first | exact Nat.le_of_ble_eq_true rfl | (simp only [List.length_cons, List.length_nil]; omega))))
            | ((with_reducible apply r_end); focus (simp only [Nat.zero_add] <;> rfl))
            | ((with_reducible (first | apply r_move | apply r_assign)); (focus (simp only [Tget_set, T.get_n, T.get_e, Nat.reduceEqDiff, Nat.reduceDiv, Nat.reduceMod, Nat.reduceSub, ↓reduceIte, if_true, if_false] <;> rfl)); (focus (exact Nat.le_of_ble_eq_true rfl)))
            | ((with_reducible apply r_condT); (focus (simp only [Tget_set, ↓reduceIte] <;> rfl)))
            | ((with_reducible (first | apply r_any | apply r_cond)); focus (simp only [↓reduceIte, clsOf, Fr.ev, put_mk, pureOp, pBin, binA, intOp_lss, Nat.reduceLT, binA, stepOp, stV_mk, stepAny, wantedA_none, y84, y85, lt_f hjl] <;> rfl))
            | (with_reducible rw [ifQ_t])
            | (with_reducible rw [ifQ_f])
            | (with_reducible refine ifQ_intro ?_ ?_ <;> intro hb))
            refine r_rq_n (k := N - (k + 1)) (by omega) ⟨_, _, _, k + 1, D.set v true, o ++ [(v : Int)], _, A, rfl, rfl, by omega, rfl, by omega, by omega, (by first | (simp only [Tget_set, Nat.reduceEqDiff, ↓reduceIte, y6] <;> rfl) | rfl), (by first | (simp only [Tget_set, Nat.reduceEqDiff, ↓reduceIte, y7] <;> rfl) | rfl), (by first | (simp only [Tget_set, Nat.reduceEqDiff, ↓reduceIte, y12] <;> rfl) | rfl), (by first | (simp only [Tget_set, Nat.reduceEqDiff, ↓reduceIte, y13] <;> rfl) | rfl), hlow4, hEq3.trans hEq4, hrA, hrD2, hCA.same fun w _ => ?_, hD2, hI4.up (by omega), Off.new (by rw [ne_eq, ky_inj]; omega)⟩
            rw [hend, List.take_length, ahd_set hvD hvl]
        · have hnf : ¬ free N E D v := fun hf => hz (hfz.1 hf)
          have hzf : (((ahd N E D v : Nat) : Int) == 0) = false := beq_eq_false_iff_ne.2 (by omega)
          repeat' (first
          | with_reducible refine r_seq ?_
          | with_reducible refine r_next ?_
          | with_reducible refine r_block ?_
          | with_reducible refine r_seq_exit ?_
          | with_reducible refine r_seq_ret ?_
          | with_reducible refine r_blk_n ?_
          | with_reducible refine r_blk_ret ?_
          | with_reducible refine r_blk_hit ?_
          | with_reducible refine r_blk_miss rfl ?_
          | with_reducible refine r_skip ?_
          | with_reducible refine r_exit ?_
          | with_reducible refine r_ret ?_
          | with_reducible refine r_rq_exit ?_
          | with_reducible refine r_rq_ret ?_
          | ((with_reducible apply r_regA); (focus (simp only [List.append_eq, List.cons_append, List.nil_append] <;> rfl)); (focus (first | exact Nat.le_of_ble_eq_true rfl | (simp only [List.length_cons, List.length_nil]; omega))))
          | ((with_reducible refine r_reg (List.toList_toArray) ?_ ?_); focus (first | exact Nat.le_of_ble_eq_true rfl | (simp only [List.length_cons, List.length_nil]; omega)))
          | ((with_reducible apply r_drawL); (focus kernel_rfl); (focus kernel_rfl); (focus (first | exact Nat.le_of_ble_eq_true rfl | (simp only [List.length_cons, List.length_nil]; omega))))
          | ((with_reducible apply r_end); focus (simp only [Nat.add_assoc, Nat.reduceAdd, Nat.zero_add] <;> rfl))
          | ((with_reducible (first | apply r_move | apply r_assign)); (focus (simp only [Tget_set, Nat.reduceEqDiff, ↓reduceIte] <;> rfl)); (focus (exact Nat.le_of_ble_eq_true rfl)))
          | ((with_reducible apply r_condT); (focus (simp only [Tget_set, ↓reduceIte] <;> rfl)))
          | ((with_reducible (first | apply r_any | apply r_cond)); focus (simp only [↓reduceIte, wantedA_eq, gBool_t, Bool.not_false, clsOf, Fr.ev, ofV, ofA, ofS, put_mk, pureOp, readOp, rLd, oneCell_one, pBin, binA, intOp_eql, intOp_lss, pPick, List.getElem?_cons_zero, List.getElem?_cons_succ, Nat.zero_add, Nat.reduceLT, Nat.reduceEqDiff, loadA_w, loadW_s, pUn_not, binA, stepOp, stV_mk, sz3, ag3, sz4, ag4, stepAny, wantedA_none, Tget_set, x7, x12, x53, x54, lt_t hvl, pIA_s Tryz.underlying81 sz4 hvl, hrD, rdv, pIA_s Tryz.underlying80 sz3 hvl, hrA, rda, hzf, intOp_add (inR_succ hvl (show N ≤ maxLen by omega))] <;> rfl))
          | (with_reducible rw [ifQ_t])
          | (with_reducible rw [ifQ_f])
          | (with_reducible refine ifQ_intro ?_ ?_ <;> intro hb))
          exact r_rq_n (k := N - (v + 1)) (by omega) ⟨_, _, v + 1, rfl, rfl, by omega, rfl, by omega, by omega, (by first | (simp only [Tget_set, Nat.reduceEqDiff, ↓reduceIte, x6] <;> rfl) | rfl), (by first | (simp only [Tget_set, Nat.reduceEqDiff, ↓reduceIte, x7] <;> rfl) | rfl), (by first | (simp only [Tget_set, Nat.reduceEqDiff, ↓reduceIte, x12] <;> rfl) | rfl), (by first | (simp only [Tget_set, Nat.reduceEqDiff, ↓reduceIte, x13] <;> rfl) | rfl), (by first | (simp only [Tget_set, Nat.reduceEqDiff, ↓reduceIte, x14] <;> rfl) | rfl), (by first | (simp only [Tget_set, Nat.reduceEqDiff, ↓reduceIte, x53] <;> rfl) | rfl), (by first | (simp only [Tget_set, ↓reduceIte] <;> rfl) | rfl), fun w hw => by
            rcases Nat.lt_or_ge w v with q | q
            · exact hno w q
            · rw [show w = v by omega]; exact hnf⟩
    · have hlt : ∀ w, w < N → ¬ free N E D w := fun w hw => hno w (by omega)
      have hnone : ordN N E (k + 1) = none := by simp only [ordN, hD, nextF_not hlt]
      have hnone2 := ordN_none hnone (N - (k + 1))
      rw [show k + 1 + (N - (k + 1)) = N by omega] at hnone2
      have hno2 := ord_no hnone2
      repeat' (first
      | with_reducible refine r_seq ?_
      | with_reducible refine r_next ?_
      | with_reducible refine r_block ?_
      | with_reducible refine r_seq_exit ?_
      | with_reducible refine r_seq_ret ?_
      | with_reducible refine r_blk_n ?_
      | with_reducible refine r_blk_ret ?_
      | with_reducible refine r_blk_hit ?_
      | with_reducible refine r_blk_miss rfl ?_
      | with_reducible refine r_skip ?_
      | with_reducible refine r_exit ?_
      | with_reducible refine r_ret ?_
      | with_reducible refine r_rq_exit ?_
      | with_reducible refine r_rq_ret ?_
      | ((with_reducible apply r_regA); (focus (simp only [List.append_eq, List.cons_append, List.nil_append] <;> rfl)); (focus (first | exact Nat.le_of_ble_eq_true rfl | (simp only [List.length_cons, List.length_nil]; omega))))
      | ((with_reducible refine r_reg (List.toList_toArray) ?_ ?_); focus (first | exact Nat.le_of_ble_eq_true rfl | (simp only [List.length_cons, List.length_nil]; omega)))
      | ((with_reducible apply r_drawL); (focus kernel_rfl); (focus kernel_rfl); (focus (first | exact Nat.le_of_ble_eq_true rfl | (simp only [List.length_cons, List.length_nil]; omega))))
      | ((with_reducible apply r_end); focus (simp only [Nat.add_assoc, Nat.reduceAdd, Nat.zero_add] <;> rfl))
      | ((with_reducible (first | apply r_move | apply r_assign)); (focus (simp only [Tget_set, Nat.reduceEqDiff, ↓reduceIte] <;> rfl)); (focus (exact Nat.le_of_ble_eq_true rfl)))
      | ((with_reducible apply r_condT); (focus (simp only [Tget_set, ↓reduceIte] <;> rfl)))
      | ((with_reducible (first | apply r_any | apply r_cond)); focus (simp only [↓reduceIte, clsOf, Fr.ev, ofV, ofA, ofS, put_mk, pureOp, pBin, binA, intOp_lss, Nat.reduceLT, Nat.reduceEqDiff, binA, decide_true, Int.reduceLT, Int.reduceNeg, stepOp, stV_mk, stepAny, wantedA_none, Tget_set, x14, x53, x54, lt_f hvl] <;> rfl))
      | (with_reducible rw [ifQ_t])
      | (with_reducible rw [ifQ_f])
      | (with_reducible refine ifQ_intro ?_ ?_ <;> intro hb))
      subst hQ
      refine ret_back (by simp only [Tryz.results11, resultOf, resultsA, resultA, List.toList_toArray, Fr.ev, Tget_set, Nat.reduceEqDiff, ↓reduceIte] <;> rfl) ?_
      rw [hN, hE, hno2.1, hno2.2]
      exact ⟨_, _, rfl, hlow3, hlow3.same hw, il_lstI (lc := 0) IL.nil (by simp) (by simp) (by omega)⟩
  · have hend : k = N := by omega
    repeat' (first
    | with_reducible refine r_seq ?_
    | with_reducible refine r_next ?_
    | with_reducible refine r_block ?_
    | with_reducible refine r_seq_exit ?_
    | with_reducible refine r_seq_ret ?_
    | with_reducible refine r_blk_n ?_
    | with_reducible refine r_blk_ret ?_
    | with_reducible refine r_blk_hit ?_
    | with_reducible refine r_blk_miss rfl ?_
    | with_reducible refine r_skip ?_
    | with_reducible refine r_exit ?_
    | with_reducible refine r_ret ?_
    | with_reducible refine r_rq_exit ?_
    | with_reducible refine r_rq_ret ?_
    | ((with_reducible apply r_regA); (focus (simp only [List.append_eq, List.cons_append, List.nil_append] <;> rfl)); (focus (first | exact Nat.le_of_ble_eq_true rfl | (simp only [List.length_cons, List.length_nil]; omega))))
    | ((with_reducible refine r_reg (List.toList_toArray) ?_ ?_); focus (first | exact Nat.le_of_ble_eq_true rfl | (simp only [List.length_cons, List.length_nil]; omega)))
    | ((with_reducible apply r_drawL); (focus kernel_rfl); (focus kernel_rfl); (focus (first | exact Nat.le_of_ble_eq_true rfl | (simp only [List.length_cons, List.length_nil]; omega))))
    | ((with_reducible apply r_end); focus (simp only [Nat.add_assoc, Nat.reduceAdd, Nat.zero_add] <;> rfl))
    | ((with_reducible (first | apply r_move | apply r_assign)); (focus (simp only [Tget_set, Nat.reduceEqDiff, ↓reduceIte] <;> rfl)); (focus (exact Nat.le_of_ble_eq_true rfl)))
    | ((with_reducible apply r_condT); (focus (simp only [Tget_set, ↓reduceIte] <;> rfl)))
    | ((with_reducible (first | apply r_any | apply r_cond)); focus (simp only [↓reduceIte, clsOf, clsCall, Fr.ev, ofV, ofA, ofS, put_mk, pureOp, readOp, pBin, binA, intOp_lss, List.getElem?_cons_zero, Nat.reduceLT, Nat.reduceEqDiff, binA, stepOp, stV_mk, stepAny, wantedA_none, rCall, rLen, Tget_set, w6, w13, hlen, hgl, lt_f hkN] <;> rfl))
    | (with_reducible rw [ifQ_t])
    | (with_reducible rw [ifQ_f])
    | (with_reducible refine ifQ_intro ?_ ?_ <;> intro hb))
    subst hQ
    refine ret_back (by simp only [Tryz.results11, resultOf, resultsA, resultA, List.toList_toArray, Fr.ev, Tget_set, Nat.reduceEqDiff, ↓reduceIte] <;> rfl) ?_
    rw [hend] at hD
    have hyes := ord_yes hD
    rw [hN, hE, hyes.1, hyes.2]
    refine ⟨_, _, rfl, hlow3, hlow3.same hw, il_lstI hI (fun z hz => ?_) (by omega) (by omega)⟩
    have := hOI.low z hz; omega

end Go.Proofs.YtpgkhpfogjclhaaGreatDoor
