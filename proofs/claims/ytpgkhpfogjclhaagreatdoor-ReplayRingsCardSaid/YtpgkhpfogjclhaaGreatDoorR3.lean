/- A part of the proof of the law ReplayRings. CONDITIONS: those that each theorem names. -/
import Derived.Test.YtpgkhpfogjclhaaGreatDoorR2
namespace Go.Proofs.YtpgkhpfogjclhaaGreatDoor
open Go Go.Ai
set_option maxRecDepth 100000

set_option maxHeartbeats 1000000 in
theorem clone39 (h : Heap) (F : Nat) (a : AV) (zs : List Int) (hA : LstP h ksN a (iL zs)) (hz : zs.length ≤ 1000) :
    SndQ Tryz.prog [] 39 [a] ⟨h, F⟩ (fun o => ∃ v h', o = .val v ⟨h', F + 1⟩ ∧ Low F h h' ∧ SameH h h' ∧ ((zs = [] ∧ v = .nils) ∨ ∃ c, c ≤ 1000 ∧ OwnL h' F c 1 v (iL zs))) := by
  refine sndQ_wf fun hw => ?_
  have mxl : maxLen = 9223372036854775807 := by decide
  have e0 : nBS Tryz.prog (ky F 3) 0 (some (.slice 2)) (some []) = some (.slice (ky F 3) 0 0 0 (some 0), mkRow [] 1) := by
    simp only [nBS, sz2, zr2, nBS2, Nat.zero_mul, AV.cells, List.length_cons, List.length_nil, repl, buildArr, nBS3, rowOf_mk]
    rfl
  have lo : Low F h (hset h (ky F 3) (mkRow [] 1)) := (Low.refl F h).set (Nat.le_refl F)
  have emp : zs = [] → ∀ s : St, srcCells s.h 1 a = some (0, []) → appendA Tryz.prog 38 38 (ky F 5) s (.slice (ky F 3) 0 0 0 (some 0)) a = some (.slice (ky F 3) 0 0 0 (some 0), s) := fun _ s hs => app_same (s := s) Tryz.underlying38 Tryz.underlying38 sz2 by2 zo2 hs (by omega) (by omega)
  rcases Nat.eq_zero_or_pos zs.length with hz0 | hzp
  · have e := List.length_eq_zero_iff.1 hz0
    subst e
    have hsrc : srcCells (hset h (ky F 3) (mkRow [] 1)) 1 a = some (0, []) := src_none (ks := ksN) (by exact (hA.same (SameH.hset hw (SameH.refl h) (ky_le F 3))))
    have ap := emp rfl ⟨hset h (ky F 3) (mkRow [] 1), F + 1⟩ hsrc
    rcases hA.2.2 with ⟨rfl | rfl, _⟩ | ⟨b, o, eo, cap, rfl, _⟩
    · refine sndQ_body (K := K0) kok0 mixed noNum (m := 0) Tryz.func39 ?_
      generalize hQ : retQ _ _ _ _ _ _ = Q0
      refine body_go (c := Tryz.f39.body.getD .skip) (n := 8) rfl rfl (by simp only [↓reduceIte, T.setList, T.set_e] <;> rfl) ?_
      simp only [Tryz.f39, Option.getD_some]
      repeat' (first
      | with_reducible refine r_seq ?_
      | with_reducible refine r_next ?_
      | with_reducible refine r_block ?_
      | with_reducible refine r_seq_exit ?_
      | with_reducible refine r_seq_ret ?_
      | with_reducible refine r_blk_n ?_
      | with_reducible refine r_blk_ret ?_
      | with_reducible refine r_blk_hit ?_
      | with_reducible refine r_blk_miss rfl ?_
      | with_reducible refine r_skip ?_
      | with_reducible refine r_exit ?_
      | with_reducible refine r_ret ?_
      | with_reducible refine r_rq_exit ?_
      | with_reducible refine r_rq_ret ?_
      | ((with_reducible apply r_regA); (focus (simp only [List.append_eq, List.cons_append, List.nil_append] <;> rfl)); (focus (first | exact Nat.le_of_ble_eq_true rfl | (simp only [List.length_cons, List.length_nil]; omega))))
      | ((with_reducible refine r_reg (List.toList_toArray) ?_ ?_); focus (first | exact Nat.le_of_ble_eq_true rfl | (simp only [List.length_cons, List.length_nil]; omega)))
      | ((with_reducible apply r_drawL); (focus kernel_rfl); (focus kernel_rfl); (focus (first | exact Nat.le_of_ble_eq_true rfl | (simp only [List.length_cons, List.length_nil]; omega))))
      | ((with_reducible apply r_end); focus (simp only [Nat.reduceAdd, Nat.zero_add] <;> rfl))
      | ((with_reducible (first | apply r_move | apply r_assign)); (focus (simp only [T.get_n, ↓reduceIte] <;> rfl)); (focus (exact Nat.le_of_ble_eq_true rfl)))
      | ((with_reducible apply r_condT); (focus (simp only [T.get_n, Nat.reduceEqDiff, Nat.reduceDiv, Nat.reduceMod, Nat.reduceSub, ↓reduceIte] <;> rfl)))
      | ((with_reducible (first | apply r_any | apply r_cond)); focus (simp only [↓reduceIte, clsOf, Fr.ev, ofV, ofA, ofS, put_mk, pureOp, pBin, binA, Nat.reduceLT, Nat.reduceEqDiff, Nat.reduceSub, binA, eqIn, eqGuardOk, stepOp, stV_mk, T.get_n, T.set_n, T.set_e, Nat.reduceDiv, Nat.reduceMod, Tryz.underlying38, stepAny, wantedA_none, eqIn, eqGuardOk] <;> rfl))
      | (with_reducible rw [ifQ_t])
      | (with_reducible rw [ifQ_f])
      | (with_reducible refine ifQ_intro ?_ ?_ <;> intro hb))
      subst hQ
      refine ret_back (by simp only [Tryz.results39, resultOf, resultsA, resultA, List.toList_toArray, Fr.ev, T.get_n, Nat.reduceDiv, Nat.reduceMod, Nat.reduceSub, Nat.reduceEqDiff, ↓reduceIte] <;> rfl) ?_
      exact ⟨_, _, rfl, Low.refl F h, SameH.refl h, .inl ⟨rfl, rfl⟩⟩
    · refine sndQ_body (K := K0) kok0 mixed noNum (m := 0) Tryz.func39 ?_
      generalize hQ : retQ _ _ _ _ _ _ = Q0
      refine body_go (c := Tryz.f39.body.getD .skip) (n := 8) rfl rfl (by simp only [↓reduceIte, T.setList, T.set_e] <;> rfl) ?_
      simp only [Tryz.f39, Option.getD_some]
      repeat' (first
      | with_reducible refine r_seq ?_
      | with_reducible refine r_next ?_
      | with_reducible refine r_block ?_
      | with_reducible refine r_seq_exit ?_
      | with_reducible refine r_seq_ret ?_
      | with_reducible refine r_blk_n ?_
      | with_reducible refine r_blk_ret ?_
      | with_reducible refine r_blk_hit ?_
      | with_reducible refine r_blk_miss rfl ?_
      | with_reducible refine r_skip ?_
      | with_reducible refine r_exit ?_
      | with_reducible refine r_ret ?_
      | with_reducible refine r_rq_exit ?_
      | with_reducible refine r_rq_ret ?_
      | ((with_reducible apply r_regA); (focus (simp only [List.append_eq, List.cons_append, List.nil_append] <;> rfl)); (focus (first | exact Nat.le_of_ble_eq_true rfl | (simp only [List.length_cons, List.length_nil]; omega))))
      | ((with_reducible refine r_reg (List.toList_toArray) ?_ ?_); focus (first | exact Nat.le_of_ble_eq_true rfl | (simp only [List.length_cons, List.length_nil]; omega)))
      | ((with_reducible apply r_drawL); (focus kernel_rfl); (focus kernel_rfl); (focus (first | exact Nat.le_of_ble_eq_true rfl | (simp only [List.length_cons, List.length_nil]; omega))))
      | ((with_reducible apply r_end); focus (simp only [Nat.reduceAdd, Nat.zero_add] <;> rfl))
      | ((with_reducible (first | apply r_move | apply r_assign)); (focus (simp only [T.get_n, Nat.reduceEqDiff, Nat.reduceDiv, Nat.reduceMod, ↓reduceIte] <;> rfl)); (focus (exact Nat.le_of_ble_eq_true rfl)))
      | ((with_reducible apply r_condT); (focus (simp only [T.get_n, Nat.reduceEqDiff, Nat.reduceDiv, Nat.reduceMod, Nat.reduceSub, ↓reduceIte] <;> rfl)))
      | ((with_reducible (first | apply r_any | apply r_cond)); focus (simp only [↓reduceIte, clsOf, clsCall, newBlk, allocOp, Fr.ev, evParts, ofV, ofA, ofS, put_mk, upd_mk, keyOf_mk, pureOp, pBin, binA, Nat.zero_add, Nat.add_zero, Nat.reduceAdd, Nat.reduceLT, Nat.reduceEqDiff, Nat.reduceSub, heavyCall, binA, eqIn, eqGuardOk, stepOp, stHeavy, stV_mk, stB_mk, stO_mk, T.get_n, T.set_n, T.set_e, Nat.reduceDiv, Nat.reduceMod, Tryz.underlying38, stepAny, wantedA_none, eqIn, eqGuardOk, e0, aBuiltin, aApp, aApp2, ap, outOf] <;> rfl))
      | (with_reducible rw [ifQ_t])
      | (with_reducible rw [ifQ_f])
      | (with_reducible refine ifQ_intro ?_ ?_ <;> intro hb))
      subst hQ
      refine ret_back (by simp only [Tryz.results39, resultOf, resultsA, resultA, List.toList_toArray, Fr.ev, Tget_set, ↓reduceIte] <;> rfl) ?_
      exact ⟨_, _, rfl, lo, lo.same hw, .inr ⟨3, by omega, OwnL.new (L := iL []) (iL_one []) (by rw [hget_hset, if_pos rfl]; rfl) (.inr rfl)⟩⟩
    · refine sndQ_body (K := K0) kok0 mixed noNum (m := 0) Tryz.func39 ?_
      generalize hQ : retQ _ _ _ _ _ _ = Q0
      refine body_go (c := Tryz.f39.body.getD .skip) (n := 8) rfl rfl (by simp only [↓reduceIte, T.setList, T.set_e] <;> rfl) ?_
      simp only [Tryz.f39, Option.getD_some]
      repeat' (first
      | with_reducible refine r_seq ?_
      | with_reducible refine r_next ?_
      | with_reducible refine r_block ?_
      | with_reducible refine r_seq_exit ?_
      | with_reducible refine r_seq_ret ?_
      | with_reducible refine r_blk_n ?_
      | with_reducible refine r_blk_ret ?_
      | with_reducible refine r_blk_hit ?_
      | with_reducible refine r_blk_miss rfl ?_
      | with_reducible refine r_skip ?_
      | with_reducible refine r_exit ?_
      | with_reducible refine r_ret ?_
      | with_reducible refine r_rq_exit ?_
      | with_reducible refine r_rq_ret ?_
      | ((with_reducible apply r_regA); (focus (simp only [List.append_eq, List.cons_append, List.nil_append] <;> rfl)); (focus (first | exact Nat.le_of_ble_eq_true rfl | (simp only [List.length_cons, List.length_nil]; omega))))
      | ((with_reducible refine r_reg (List.toList_toArray) ?_ ?_); focus (first | exact Nat.le_of_ble_eq_true rfl | (simp only [List.length_cons, List.length_nil]; omega)))
      | ((with_reducible apply r_drawL); (focus kernel_rfl); (focus kernel_rfl); (focus (first | exact Nat.le_of_ble_eq_true rfl | (simp only [List.length_cons, List.length_nil]; omega))))
      | ((with_reducible apply r_end); focus (simp only [Nat.reduceAdd, Nat.zero_add] <;> rfl))
      | ((with_reducible (first | apply r_move | apply r_assign)); (focus (simp only [T.get_n, Nat.reduceEqDiff, Nat.reduceDiv, Nat.reduceMod, ↓reduceIte] <;> rfl)); (focus (exact Nat.le_of_ble_eq_true rfl)))
      | ((with_reducible apply r_condT); (focus (simp only [T.get_n, Nat.reduceEqDiff, Nat.reduceDiv, Nat.reduceMod, Nat.reduceSub, ↓reduceIte] <;> rfl)))
      | ((with_reducible (first | apply r_any | apply r_cond)); focus (simp only [↓reduceIte, clsOf, clsCall, newBlk, allocOp, Fr.ev, evParts, ofV, ofA, ofS, put_mk, upd_mk, keyOf_mk, pureOp, pBin, binA, Nat.zero_add, Nat.add_zero, Nat.reduceAdd, Nat.reduceLT, Nat.reduceEqDiff, Nat.reduceSub, heavyCall, binA, eqIn, eqGuardOk, stepOp, stHeavy, stV_mk, stB_mk, stO_mk, T.get_n, T.set_n, T.set_e, Nat.reduceDiv, Nat.reduceMod, Tryz.underlying38, stepAny, wantedA_none, eqIn, eqGuardOk, e0, aBuiltin, aApp, aApp2, ap, outOf] <;> rfl))
      | (with_reducible rw [ifQ_t])
      | (with_reducible rw [ifQ_f])
      | (with_reducible refine ifQ_intro ?_ ?_ <;> intro hb))
      subst hQ
      refine ret_back (by simp only [Tryz.results39, resultOf, resultsA, resultA, List.toList_toArray, Fr.ev, Tget_set, ↓reduceIte] <;> rfl) ?_
      exact ⟨_, _, rfl, lo, lo.same hw, .inr ⟨3, by omega, OwnL.new (L := iL []) (iL_one []) (by rw [hget_hset, if_pos rfl]; rfl) (.inr rfl)⟩⟩
  · have hA4 := hA.same (SameH.hset (k := ky F 3) (b := mkRow [] 1) hw (SameH.refl h) (ky_le F 3))
    have hsrc : srcCells (hset h (ky F 3) (mkRow [] 1)) 1 a = some (zs.length, ints zs) := by
      have := src_L (ks := ksN) hA4 (by rw [iL_len]; exact hzp)
      rw [iL_len, iL_flat] at this
      exact this
    have ap : appendA Tryz.prog 38 38 (ky F 5) ⟨hset h (ky F 3) (mkRow [] 1), F + 1⟩ (.slice (ky F 3) 0 0 0 (some 0)) a = some (.slice (ky F 5) 0 0 zs.length none, ⟨hset (hset h (ky F 3) (mkRow [] 1)) (ky F 5) (mkRow (ints zs) 1), F + 1⟩) := by
      rw [app_cap0 (s := ⟨hset h (ky F 3) (mkRow [] 1), F + 1⟩) (key := ky F 5) Tryz.underlying38 Tryz.underlying38 sz2 by2 zo2 hsrc hzp (by rw [hget_hset, if_pos rfl]) (by omega) (by omega), St.upd_eq]
    rcases hA.2.2 with ⟨_, e⟩ | ⟨b, o, eo, cap, rfl, _⟩
    · rw [← iL_len, e] at hzp; simp at hzp
    · refine sndQ_body (K := K0) kok0 mixed noNum (m := 0) Tryz.func39 ?_
      generalize hQ : retQ _ _ _ _ _ _ = Q0
      refine body_go (c := Tryz.f39.body.getD .skip) (n := 8) rfl rfl (by simp only [↓reduceIte, T.setList, T.set_e] <;> rfl) ?_
      simp only [Tryz.f39, Option.getD_some]
      repeat' (first
      | with_reducible refine r_seq ?_
      | with_reducible refine r_next ?_
      | with_reducible refine r_block ?_
      | with_reducible refine r_seq_exit ?_
      | with_reducible refine r_seq_ret ?_
      | with_reducible refine r_blk_n ?_
      | with_reducible refine r_blk_ret ?_
      | with_reducible refine r_blk_hit ?_
      | with_reducible refine r_blk_miss rfl ?_
      | with_reducible refine r_skip ?_
      | with_reducible refine r_exit ?_
      | with_reducible refine r_ret ?_
      | with_reducible refine r_rq_exit ?_
      | with_reducible refine r_rq_ret ?_
      | ((with_reducible apply r_regA); (focus (simp only [List.append_eq, List.cons_append, List.nil_append] <;> rfl)); (focus (first | exact Nat.le_of_ble_eq_true rfl | (simp only [List.length_cons, List.length_nil]; omega))))
      | ((with_reducible refine r_reg (List.toList_toArray) ?_ ?_); focus (first | exact Nat.le_of_ble_eq_true rfl | (simp only [List.length_cons, List.length_nil]; omega)))
      | ((with_reducible apply r_drawL); (focus kernel_rfl); (focus kernel_rfl); (focus (first | exact Nat.le_of_ble_eq_true rfl | (simp only [List.length_cons, List.length_nil]; omega))))
      | ((with_reducible apply r_end); focus (simp only [Nat.reduceAdd, Nat.zero_add] <;> rfl))
      | ((with_reducible (first | apply r_move | apply r_assign)); (focus (simp only [T.get_n, Nat.reduceEqDiff, Nat.reduceDiv, Nat.reduceMod, ↓reduceIte] <;> rfl)); (focus (exact Nat.le_of_ble_eq_true rfl)))
      | ((with_reducible apply r_condT); (focus (simp only [T.get_n, Nat.reduceEqDiff, Nat.reduceDiv, Nat.reduceMod, Nat.reduceSub, ↓reduceIte] <;> rfl)))
      | ((with_reducible (first | apply r_any | apply r_cond)); focus (simp only [↓reduceIte, clsOf, clsCall, newBlk, allocOp, Fr.ev, evParts, ofV, ofA, ofS, put_mk, upd_mk, keyOf_mk, pureOp, pBin, binA, Nat.zero_add, Nat.add_zero, Nat.reduceAdd, Nat.reduceLT, Nat.reduceEqDiff, Nat.reduceSub, heavyCall, binA, eqIn, eqGuardOk, stepOp, stHeavy, stV_mk, stB_mk, stO_mk, T.get_n, T.set_n, T.set_e, Nat.reduceDiv, Nat.reduceMod, Tryz.underlying38, stepAny, wantedA_none, eqIn, eqGuardOk, e0, aBuiltin, aApp, aApp2, ap, outOf] <;> rfl))
      | (with_reducible rw [ifQ_t])
      | (with_reducible rw [ifQ_f])
      | (with_reducible refine ifQ_intro ?_ ?_ <;> intro hb))
      subst hQ
      refine ret_back (by simp only [Tryz.results39, resultOf, resultsA, resultA, List.toList_toArray, Fr.ev, Tget_set, ↓reduceIte] <;> rfl) ?_
      have lo2 : Low F h (hset (hset h (ky F 3) (mkRow [] 1)) (ky F 5) (mkRow (ints zs) 1)) := lo.set (Nat.le_refl F)
      refine ⟨_, _, rfl, lo2, lo2.same hw, .inr ⟨5, by omega, ?_⟩⟩
      have := OwnL.new (h := hset (hset h (ky F 3) (mkRow [] 1)) (ky F 5) (mkRow (ints zs) 1)) (F := F) (c := 5) (L := iL zs) (cap := none) (iL_one zs) (by rw [hget_hset, if_pos rfl, iL_flat]) (.inl rfl)
      rw [iL_len] at this
      exact this

end Go.Proofs.YtpgkhpfogjclhaaGreatDoor
