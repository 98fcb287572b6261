/- A part of the proof of the law ReplayRings. CONDITIONS: those that each theorem names. -/
import Derived.Test.YtpgkhpfogjclhaaGreatDoorR3
namespace Go.Proofs.YtpgkhpfogjclhaaGreatDoor
open Go Go.Ai
set_option maxRecDepth 100000

def S13 (Gs : List (List Int)) : FuncId → List AV → St → Out → Prop
  | 38, _, s, o => ∃ v h', o = .val v ⟨h', s.fc + 1⟩ ∧ Low s.fc s.h h' ∧ SameH s.h h' ∧ Lst2I s.fc (s.fc + 1) h' ksN v (Gs.map iL)
  | 39, [x], s, o => ∀ zs, LstP s.h ksN x (iL zs) → ∃ v h', o = .val v ⟨h', s.fc + 1⟩ ∧ Low s.fc s.h h' ∧ SameH s.h h' ∧ ((zs = [] ∧ v = .nils) ∨ ∃ c, c ≤ 1000 ∧ OwnL h' s.fc c 1 v (iL zs))
  | _, _, _, _ => True
theorem clone39Q {Gs : List (List Int)} {h : Heap} {F : Nat} {a : AV} {zs : List Int} (hA : LstP h ksN a (iL zs)) (hz : zs.length ≤ 1000) : SndQ Tryz.prog [] 39 [a] ⟨h, F⟩ (S13 Gs 39 [a] ⟨h, F⟩) :=
  (clone39 h F a zs hA hz).mono fun o ho zs2 h2 => by
    have := iL_inj (LstP.uniq hA h2)
    subst this
    exact ho
theorem own_set {F cs lc B k G c : Nat} {h : Heap} {l : AV} {L : List (List AV)} {b : AB} (h1 : (G = F ∧ cs < c ∧ c < lc) ∨ (B ≤ G ∧ F < G ∧ c ≤ 1000000)) (ho : OwnL h G c 1 l L) (hk : lc ≤ k ∨ k ≤ cs) (hb : k ≤ 1267650600228229401496703205375) : OwnL (hset h (ky F k) b) G c 1 l L := by
  refine ho.move ?_
  rw [hget_hset, if_neg]
  intro q
  rcases h1 with ⟨rfl, h3, h4⟩ | ⟨h3, h4, h5⟩
  · rw [ky_inj] at q; omega
  · have h6 := ky_next F k hb
    have h7 : ky (F + 1) 0 ≤ ky G 0 := ky_mono h4
    have h8 := ky_le G c
    omega
theorem c00 : ((0 : Nat) : Int) = 0 := rfl
theorem by4 : bytesT Tryz.prog 4 = some 1 := by kernel_rfl
theorem eqI_down {A B : Nat} {h h' : Heap} {F : Nat} (hl : Low F h h') (hb : B ≤ F) : EqI A B h h' := (EqI.refl A B h).call hl hb
theorem rest_bound {n : Nat} {E : List (Int × Int)} (b : List Bool) (hn : n ≤ 50) (hE : E.length ≤ 300) : rest b (gOf n E) ≤ 15000 := by
  have h1 := rest_le b (gOf n E)
  have h2 := gOf_sum n E
  have h3 : n * E.length ≤ 50 * 300 := Nat.mul_le_mul hn hE
  omega
set_option maxHeartbeats 8000000 in
theorem rings13 (h : Heap) (F : Nat) (n : Int) (a : AV) (L : List (List AV)) (hA : LstP h ksE a L) (hn : n ≤ 50) (hL : L.length ≤ 300) :
    SndQ Tryz.prog [] 13 [.int .i64 n, a] ⟨h, F⟩ (fun o => ∃ v h' F', o = .val v ⟨h', F'⟩ ∧ F < F' ∧ Low F h h' ∧ SameH h h' ∧ LstI F (F + 1) h' ksN v (iL (ringsL n.toNat (edgesL L)))) := by
  have mxl : maxLen = 9223372036854775807 := by decide
  refine sndQ_wf fun hw => ?_
  obtain ⟨N, hN⟩ : ∃ N, n.toNat = N := ⟨_, rfl⟩
  obtain ⟨E, hE⟩ : ∃ E, edgesL L = E := ⟨_, rfl⟩
  have hEl : E.length ≤ 300 := by rw [← hE, edgesL_len]; exact hL
  have hNl : N ≤ 50 := by omega
  refine sndQ_body (K := KU Tryz.prog [] (S13 (gOf N E))) ku_ok mixed noNum (m := 100001) Tryz.func13 ?_
  generalize hQ : retQ _ _ _ _ _ _ = Q0
  refine body_go (c := Tryz.f13.body.getD .skip) (n := 65) rfl rfl (by simp only [↓reduceIte, T.setList, T.set_e, T.set_n, Nat.reduceDiv, Nat.reduceMod, Nat.reduceEqDiff, Nat.zero_add] <;> rfl) ?_
  simp only [Tryz.f13, Option.getD_some]
  repeat' (first
  | with_reducible refine r_seq ?_
  | with_reducible refine r_next ?_
  | with_reducible refine r_block ?_
  | with_reducible refine r_seq_exit ?_
  | with_reducible refine r_seq_ret ?_
  | with_reducible refine r_blk_n ?_
  | with_reducible refine r_blk_ret ?_
  | with_reducible refine r_blk_hit ?_
  | with_reducible refine r_blk_miss rfl ?_
  | with_reducible refine r_skip ?_
  | with_reducible refine r_exit ?_
  | with_reducible refine r_ret ?_
  | with_reducible refine r_rq_exit ?_
  | with_reducible refine r_rq_ret ?_
  | ((with_reducible apply r_regA); (focus (simp only [List.append_eq, List.cons_append, List.nil_append] <;> rfl)); (focus (first | exact Nat.le_of_ble_eq_true rfl | (simp only [List.length_cons, List.length_nil]; omega))))
  | ((with_reducible refine r_reg (List.toList_toArray) ?_ ?_); focus (first | exact Nat.le_of_ble_eq_true rfl | (simp only [List.length_cons, List.length_nil]; omega)))
  | ((with_reducible apply r_drawL); (focus kernel_rfl); (focus kernel_rfl); (focus (first | exact Nat.le_of_ble_eq_true rfl | (simp only [List.length_cons, List.length_nil]; omega))))
  | ((with_reducible apply r_end); focus (simp only [Nat.zero_add] <;> rfl))
  | ((with_reducible (first | apply r_move | apply r_assign)); (focus (simp only [Tget_set, T.get_n, Nat.reduceEqDiff, Nat.reduceDiv, Nat.reduceMod, ↓reduceIte] <;> rfl)); (focus (exact Nat.le_of_ble_eq_true rfl)))
  | ((with_reducible apply r_condT); (focus (simp only [Tget_set, T.get_n, T.get_e, Nat.reduceEqDiff, Nat.reduceDiv, Nat.reduceMod, Nat.reduceSub, ↓reduceIte, if_true, if_false] <;> rfl)))
  | ((with_reducible (first | apply r_any | apply r_cond)); focus (simp only [↓reduceIte, clsOf, clsCall, Fr.ev, evs, ofV, ofA, ofS, put_mk, pureOp, Nat.reduceLT, Nat.reduceEqDiff, Nat.reduceSub, callTo_s, heavyCall, target, List.nil_append, List.append_nil, stepOp, stHeavy, stV_mk, T.get_n, T.set_n, T.set_e, Nat.reduceDiv, Nat.reduceMod, stepAny, wantedA_none] <;> rfl))
  | (with_reducible rw [ifQ_t])
  | (with_reducible rw [ifQ_f])
  | (with_reducible refine ifQ_intro ?_ ?_ <;> intro hb))
  refine r_callQ (f := 38) (by simp only [↓reduceIte, Nat.reduceEqDiff, Nat.reduceSub, T.set_n, T.set_e, Nat.reduceDiv, Nat.reduceMod, wantedA_none] <;> rfl) (by simp only [callOuts, ku_fn, callTo_s, target, ↓reduceIte, Fr.ev, evs, Nat.reduceEqDiff, Nat.reduceSub, callTo_s, target, List.nil_append, List.append_nil, T.get_n, T.set_n, T.set_e, Nat.reduceDiv, Nat.reduceMod] <;> rfl) ?_ ?_
  · have := graph38 h (F + 1) n a L hA (by omega) (by omega)
    rw [hN, hE] at this
    exact this
  rintro o ⟨g, h1, rfl, hlow1, hsame1, hg1⟩
  refine ⟨_, by simp only [put_mk, Nat.reduceLT, ↓reduceIte] <;> rfl, ?_⟩
  simp only [] at hlow1 hg1
  have hll : ((gOf N E).map iL).length = N := by rw [List.length_map, gOf_len]
  have hgl := rLen1_I2 (h2 := h1) Tryz.underlying78 hg1
  rw [hll] at hgl
  repeat' (first
  | with_reducible refine r_seq ?_
  | with_reducible refine r_next ?_
  | with_reducible refine r_block ?_
  | with_reducible refine r_seq_exit ?_
  | with_reducible refine r_seq_ret ?_
  | with_reducible refine r_blk_n ?_
  | with_reducible refine r_blk_ret ?_
  | with_reducible refine r_blk_hit ?_
  | with_reducible refine r_blk_miss rfl ?_
  | with_reducible refine r_skip ?_
  | with_reducible refine r_exit ?_
  | with_reducible refine r_ret ?_
  | with_reducible refine r_rq_exit ?_
  | with_reducible refine r_rq_ret ?_
  | ((with_reducible apply r_regA); (focus (simp only [List.append_eq, List.cons_append, List.nil_append] <;> rfl)); (focus (first | exact Nat.le_of_ble_eq_true rfl | (simp only [List.length_cons, List.length_nil]; omega))))
  | ((with_reducible refine r_reg (List.toList_toArray) ?_ ?_); focus (first | exact Nat.le_of_ble_eq_true rfl | (simp only [List.length_cons, List.length_nil]; omega)))
  | ((with_reducible apply r_drawL); (focus kernel_rfl); (focus kernel_rfl); (focus (first | exact Nat.le_of_ble_eq_true rfl | (simp only [List.length_cons, List.length_nil]; omega))))
  | ((with_reducible apply r_end); focus (simp only [Nat.reduceAdd, Nat.zero_add] <;> rfl))
  | ((with_reducible (first | apply r_move | apply r_assign)); (focus (simp only [Tget_set, T.get_n, Nat.reduceEqDiff, Nat.reduceDiv, Nat.reduceMod, Nat.reduceSub, ↓reduceIte] <;> rfl)); (focus (exact Nat.le_of_ble_eq_true rfl)))
  | ((with_reducible apply r_condT); (focus (simp only [Tget_set, T.get_n, T.get_e, Nat.reduceEqDiff, Nat.reduceDiv, Nat.reduceMod, Nat.reduceSub, ↓reduceIte, if_true, if_false] <;> rfl)))
  | ((with_reducible (first | apply r_any | apply r_cond)); focus (simp only [↓reduceIte, clsOf, clsCall, Fr.ev, ofV, ofA, ofS, put_mk, pureOp, readOp, List.getElem?_cons_zero, Nat.reduceLT, Nat.reduceEqDiff, Nat.reduceSub, stepOp, stV_mk, T.get_n, T.set_n, T.set_e, Nat.reduceDiv, Nat.reduceMod, stepAny, wantedA_none, rCall, rLen, hgl] <;> rfl))
  | (with_reducible rw [ifQ_t])
  | (with_reducible rw [ifQ_f])
  | (with_reducible refine ifQ_intro ?_ ?_ <;> intro hb))
  refine r_loop (I := fun nn fr s1 => ∃ lc tt h2 i lo G, fr = ⟨F, lc, 65, tt, [], .no⟩ ∧ s1 = ⟨h2, G⟩ ∧ F + 1 + 1 ≤ G ∧ i ≤ N ∧ nn = N - i ∧ 7 ≤ lc ∧ lc + nn * 1000000000 ≤ 100000000000000000000000000 ∧ tt.get 0 = some (.int .i64 n) ∧ tt.get 5 = some g ∧ tt.get 6 = some lo ∧ tt.get 15 = some (.int .i64 (N : Int)) ∧ tt.get 16 = some (.int .i64 (i : Int)) ∧ Low F h h2 ∧ EqI (F + 1) (F + 1 + 1) h1 h2 ∧ IL h2 F lc lo (ringsUp N E i)) (n := N) ?_ ?_ ?_
  · omega
  · exact ⟨_, _, _, 0, .nils, _, rfl, rfl, Nat.le_refl _, Nat.zero_le _, (Nat.sub_zero _).symm, by omega, by omega, (by first | (simp only [T.get_n, ↓reduceIte] <;> rfl) | rfl), (by first | (simp only [T.get_n, Nat.reduceEqDiff, Nat.reduceDiv, Nat.reduceMod, Nat.reduceSub, ↓reduceIte] <;> rfl) | rfl), (by first | (simp only [T.get_n, Nat.reduceEqDiff, Nat.reduceDiv, Nat.reduceMod, Nat.reduceSub, ↓reduceIte] <;> rfl) | rfl), (by first | (simp only [T.get_n, Nat.reduceEqDiff, Nat.reduceDiv, Nat.reduceMod, ↓reduceIte] <;> rfl) | rfl), (by first | (simp only [T.get_n, Nat.reduceEqDiff, Nat.reduceDiv, Nat.reduceMod, Nat.reduceSub, ↓reduceIte] <;> rfl) | rfl), hlow1.down (by omega), EqI.refl _ _ _, by rw [ringsUp_zero]; exact IL.nil⟩
  rintro nn fr s1 ⟨lc, tt, h2, i, lo, G, rfl, rfl, hG, hi, rfl, hl0, hlc, u0, u5, u6, u15, u16, hS, hEq, hI⟩
  by_cases hil : i < N
  · obtain rfl : n = (N : Int) := by omega
    have hg2 := hg1.move hEq
    obtain ⟨b0, o0, eo0, cap0, x, rfl, hb1, hb2, r0, hx⟩ := hg2.at (i := i) (l := iL (outs N E i)) (by rw [List.getElem?_map, gOf_get hil]; rfl)
    rw [hll] at *
    have hoff := off_ne hb1 hb2 (.inl (Nat.lt_succ_self F))
    have n1 : (b0 = ky F (lc + 3 + 1)) = False := hoff _ (by omega)
    have hol := outs_len N E i
    repeat' (first
    | with_reducible refine r_seq ?_
    | with_reducible refine r_next ?_
    | with_reducible refine r_block ?_
    | with_reducible refine r_seq_exit ?_
    | with_reducible refine r_seq_ret ?_
    | with_reducible refine r_blk_n ?_
    | with_reducible refine r_blk_ret ?_
    | with_reducible refine r_blk_hit ?_
    | with_reducible refine r_blk_miss rfl ?_
    | with_reducible refine r_skip ?_
    | with_reducible refine r_exit ?_
    | with_reducible refine r_ret ?_
    | with_reducible refine r_rq_exit ?_
    | with_reducible refine r_rq_ret ?_
    | ((with_reducible apply r_regA); (focus (simp only [List.append_eq, List.cons_append, List.nil_append] <;> rfl)); (focus (first | exact Nat.le_of_ble_eq_true rfl | (simp only [List.length_cons, List.length_nil]; omega))))
    | ((with_reducible refine r_reg (List.toList_toArray) ?_ ?_); focus (first | exact Nat.le_of_ble_eq_true rfl | (simp only [List.length_cons, List.length_nil]; omega)))
    | ((with_reducible apply r_drawL); (focus kernel_rfl); (focus kernel_rfl); (focus (first | exact Nat.le_of_ble_eq_true rfl | (simp only [List.length_cons, List.length_nil]; omega))))
    | ((with_reducible apply r_end); focus (simp only [Nat.add_assoc, Nat.reduceAdd, Nat.zero_add] <;> rfl))
    | ((with_reducible (first | apply r_move | apply r_assign)); (focus (simp only [Tget_set, Nat.reduceEqDiff, ↓reduceIte, u0, u5, u16] <;> rfl)); (focus (exact Nat.le_of_ble_eq_true rfl)))
    | ((with_reducible apply r_condT); (focus (simp only [Tget_set, ↓reduceIte] <;> rfl)))
    | ((with_reducible (first | apply r_any | apply r_cond)); focus (simp only [↓reduceIte, clsOf, clsCall, newBlk, allocOp, Fr.ev, evs, put_mk, upd_mk, keyOf_mk, pureOp, readOp, rLd, oneCell_one, hget_hset_ite, pBin, binA, intOp_lss, Nat.zero_add, Nat.reduceLT, Nat.reduceEqDiff, loadA_w, loadW_s, callTo_s, heavyCall, target, List.nil_append, List.append_nil, binA, stepOp, stHeavy, stV_mk, stB_mk, sz38, ag38, Tryz.underlying81, stepAny, wantedA_none, Tget_set, u15, u16, lt_t hil, nMS_b sz4 by4 zr4 (show 1 * N ≤ 1073741824 by omega) (show N ≤ 1073741824 by omega), pIA_s Tryz.underlying78 sz38 hil, r0, n1] <;> rfl))
    | (with_reducible rw [ifQ_t])
    | (with_reducible rw [ifQ_f])
    | (with_reducible refine ifQ_intro ?_ ?_ <;> intro hb))
    refine r_callQ (f := 39) (by simp only [wantedA_none] <;> rfl) (by simp only [callOuts, ku_fn, callTo_s, target, ↓reduceIte, Fr.ev, evs, callTo_s, target, List.nil_append, List.append_nil, Tget_set] <;> rfl) ?_ ?_
    · refine clone39Q (zs := outs N E i) ?_ (by omega)
      exact (hx.move ((EqI.refl _ _ _).set (.inl (Nat.lt_succ_self F)) (by omega))).p
    intro o ho
    obtain ⟨lk0, h4, rfl, hlow4, _, hlk0⟩ := ho (outs N E i) (hx.move ((EqI.refl _ _ _).set (.inl (Nat.lt_succ_self F)) (by omega))).p
    refine ⟨_, by simp only [put_mk, Nat.reduceLT, ↓reduceIte] <;> rfl, ?_⟩
    simp only [] at hlow4 hlk0
    have hev4 : Ev F lc (F + 1) (F + 1 + 1) h2 h4 := ((Ev.refl F lc _ _ h2).set (by omega) (by omega) (.inl (Nat.lt_succ_self F))).call hlow4 (by omega) (by omega) (by omega)
    have hrow4 : hget h4 (ky F (lc + 3 + 1)) = some (bRow (List.replicate N false)) := by rw [hlow4.own (by omega) (by omega), hget_hset, if_pos rfl]
    repeat' (first
    | with_reducible refine r_seq ?_
    | with_reducible refine r_next ?_
    | with_reducible refine r_block ?_
    | with_reducible refine r_seq_exit ?_
    | with_reducible refine r_seq_ret ?_
    | with_reducible refine r_blk_n ?_
    | with_reducible refine r_blk_ret ?_
    | with_reducible refine r_blk_hit ?_
    | with_reducible refine r_blk_miss rfl ?_
    | with_reducible refine r_skip ?_
    | with_reducible refine r_exit ?_
    | with_reducible refine r_ret ?_
    | with_reducible refine r_rq_exit ?_
    | with_reducible refine r_rq_ret ?_
    | ((with_reducible apply r_regA); (focus (simp only [List.append_eq, List.cons_append, List.nil_append] <;> rfl)); (focus (first | exact Nat.le_of_ble_eq_true rfl | (simp only [List.length_cons, List.length_nil]; omega))))
    | ((with_reducible refine r_reg (List.toList_toArray) ?_ ?_); focus (first | exact Nat.le_of_ble_eq_true rfl | (simp only [List.length_cons, List.length_nil]; omega)))
    | ((with_reducible apply r_drawL); (focus kernel_rfl); (focus kernel_rfl); (focus (first | exact Nat.le_of_ble_eq_true rfl | (simp only [List.length_cons, List.length_nil]; omega))))
    | ((with_reducible apply r_end); focus (simp only [Nat.add_assoc, Nat.reduceAdd, Nat.zero_add] <;> rfl))
    | ((with_reducible (first | apply r_move | apply r_assign)); (focus (simp only [Tget_set, ↓reduceIte] <;> rfl)); (focus (exact Nat.le_of_ble_eq_true rfl)))
    | ((with_reducible apply r_condT); (focus (simp only [Tget_set, T.get_n, T.get_e, Nat.reduceEqDiff, Nat.reduceDiv, Nat.reduceMod, Nat.reduceSub, ↓reduceIte, if_true, if_false, u0, u5, u6, u15, u16] <;> rfl)))
    | ((with_reducible (first | apply r_any | apply r_cond)); focus (simp only [↓reduceIte, wantedA_eq, gBool_t, gBool_f, Bool.not_true, Bool.not_false, Bool.not_not, clsOf, clsCall, newBlk, allocOp, ev_tmp, Fr.ev, evs, evParts, ofV, ofA, ofS, ofSs, ofAs, nVar, AV.cells, rowOf_mk, put_mk, put_none, upd_mk, withH_mk, keyOf_mk, ky_inj, pureOp, readOp, T.get_e, pFA, pFA1, pFA2, rLd, rdAB_row, oneCell_one, someAgg_s, hget_same, hget_hset_ite, pBin, binA, intOp_eql, intOp_neq, intOp_lss, intOp_leq, intOp_gtr, intOp_geq, pPick, List.length_cons, List.length_nil, List.getElem?_cons_zero, List.getElem?_cons_succ, List.drop_zero, List.drop_succ_cons, List.take_succ_cons, List.take_zero, Nat.zero_add, Nat.add_zero, Nat.reduceAdd, Nat.reduceLT, Nat.reduceLeDiff, Nat.reduceEqDiff, Nat.reduceMul, Nat.reduceSub, Nat.succ_eq_add_one, if_true, if_false, true_and, and_true, and_self, List.toList_toArray, Nat.add_eq, Nat.mul_eq, Nat.sub_eq, loadA_w, loadW_a, loadW_s, aSt_w, stOut_s, wrAB_row, ovr, List.set_cons_zero, List.set_cons_succ, allCell, isCell, pUn_not, callTo_s, heavyCall, target, actOp, pEx, List.nil_append, List.append_nil, pNil, pBuild, pBuild2, fieldsOk, buildParts, List.getElem?_nil, pMkF, binA, eqIn, eqGuardOk, pF, pF1, partA, beq_self_eq_true, bne_self_eq_false, decide_true, decide_false, Int.reduceBEq, Int.reduceBNe, Int.reduceLT, Int.reduceLE, Int.reduceEq, Int.reduceNeg, Int.reduceAdd, Int.reduceSub, Bool.and_true, Bool.true_and, Bool.and_false, Bool.false_and, stepOp, stHeavy, stV_mk, stB_mk, stO_mk, T.get_n, T.set_n, T.set_e, Nat.reduceDiv, Nat.reduceMod, ofNat_z, sz2, ag2, zr2, Tryz.underlying2, sz3, ag3, zr3, Tryz.underlying3, sz4, ag4, zr4, Tryz.underlying4, sz37, ag37, zr37, Tryz.underlying37, sz38, ag38, zr38, Tryz.underlying38, sz78, ag78, zr78, Tryz.underlying78, sz81, ag81, zr81, Tryz.underlying81, sz83, ag83, zr83, Tryz.underlying83, stepAny, wantedA_none, rCall, rLen, rLen1_str, rLen1_sl, lenA, Tget_set, natOf_c, u0, u5, u6, u15, u16] <;> rfl))
    | (with_reducible rw [ifQ_t])
    | (with_reducible rw [ifQ_f])
    | (with_reducible refine ifQ_intro ?_ ?_ <;> intro hb))
    refine r_loop (I := fun nn fr s1 => ∃ lc2 tt2 h5 b lk ws, fr = ⟨F, lc2, 65, tt2, [], .no⟩ ∧ s1 = ⟨h5, G + 1⟩ ∧ nn = ws.length + rest b (gOf N E) ∧ lc + 4 < lc2 ∧ lc2 + nn * 100 ≤ lc + 2000000 ∧ tt2.get 0 = some (.int .i64 (N : Int)) ∧ tt2.get 5 = some (.slice b0 o0 eo0 N cap0) ∧ tt2.get 6 = some lo ∧ tt2.get 7 = some (.int .i64 (i : Int)) ∧ tt2.get 8 = some (.slice (ky F (lc + 3 + 1)) 0 0 N (some N)) ∧ tt2.get 9 = some lk ∧ tt2.get 15 = some (.int .i64 (N : Int)) ∧ tt2.get 16 = some (.int .i64 (i : Int)) ∧ Ev F lc (F + 1) (F + 1 + 1) h2 h5 ∧ hget h5 (ky F (lc + 3 + 1)) = some (bRow b) ∧ LK h5 F (lc + 3 + 1) lc2 (F + 1 + 1) lk ws ∧ QI N E i b ws) (n := (outs N E i).length + rest (List.replicate N false) (gOf N E)) ?_ ?_ ?_
    · have := rest_bound (List.replicate N false) hNl hEl; omega
    · have := rest_bound (List.replicate N false) hNl hEl
      refine ⟨_, _, _, List.replicate N false, lk0, outs N E i, rfl, rfl, rfl, by omega, by omega, (by first | (simp only [Tget_set, Nat.reduceEqDiff, ↓reduceIte, u0] <;> rfl) | rfl), (by first | (simp only [Tget_set, Nat.reduceEqDiff, ↓reduceIte, u5] <;> rfl) | rfl), (by first | (simp only [Tget_set, Nat.reduceEqDiff, ↓reduceIte, u6] <;> rfl) | rfl), (by first | (simp only [Tget_set, Nat.reduceEqDiff, ↓reduceIte] <;> rfl) | rfl), (by first | (simp only [Tget_set, Nat.reduceEqDiff, ↓reduceIte] <;> rfl) | rfl), (by first | (simp only [Tget_set, ↓reduceIte] <;> rfl) | rfl), (by first | (simp only [Tget_set, Nat.reduceEqDiff, ↓reduceIte, u15] <;> rfl) | rfl), (by first | (simp only [Tget_set, Nat.reduceEqDiff, ↓reduceIte, u16] <;> rfl) | rfl), hev4, hrow4, ?_, QI.init N E i⟩
      rcases hlk0 with ⟨e1, e2⟩ | ⟨c, hc, ho2⟩
      · exact .inl ⟨e1, .inl e2⟩
      · exact .inr ⟨G, c, .inr ⟨hG, by omega, by omega⟩, ho2⟩
    rintro nn fr s1 ⟨lc2, tt2, h5, b, lk, ws, rfl, rfl, rfl, hl2, hlc2, v0, v5, v6, v7, v8, v9, v15, v16, hev, hrow, hlk, hQI⟩
    have hbl := hQI.len
    obtain ⟨v, hv⟩ : ∃ v, b[i]? = some v := ⟨b[i]'(by omega), by simp⟩
    have hI5 : IL h5 F lc lo (ringsUp N E i) := hI.moveF fun c hc => hev.own hc
    have hI5' := hI5.up (show lc ≤ lc2 by omega)
    have hul := ringsUp_len N E i
    have ap := fun (key : Nat) => app_ints2 (P := Tryz.prog) (key := key) (f := G + 1) (a := 14) (b := 2) (x := (i : Int)) (cap := some 1) Tryz.underlying38 sz2 by2 zo2 (by omega) hI5' (show (ringsUp N E i).length ≤ 1000 by omega)
    have rdi := rd_b hv
    have hlen := hlk.len (h2 := h5) Tryz.underlying38
    have hEq5 := hEq.trans hev.eqI
    have hlow5 := hS.trans hev.low
    rcases ws with _ | ⟨w, ws⟩
    · have hdone := hQI.done (.inl rfl)
      rw [hv] at hdone
      cases v with
      | true =>
        repeat' (first
        | with_reducible refine r_seq ?_
        | with_reducible refine r_next ?_
        | with_reducible refine r_block ?_
        | with_reducible refine r_seq_exit ?_
        | with_reducible refine r_seq_ret ?_
        | with_reducible refine r_blk_n ?_
        | with_reducible refine r_blk_ret ?_
        | with_reducible refine r_blk_hit ?_
        | with_reducible refine r_blk_miss rfl ?_
        | with_reducible refine r_skip ?_
        | with_reducible refine r_exit ?_
        | with_reducible refine r_ret ?_
        | with_reducible refine r_rq_exit ?_
        | with_reducible refine r_rq_ret ?_
        | ((with_reducible apply r_regA); (focus (simp only [List.append_eq, List.cons_append, List.nil_append] <;> rfl)); (focus (first | exact Nat.le_of_ble_eq_true rfl | (simp only [List.length_cons, List.length_nil]; omega))))
        | ((with_reducible refine r_reg (List.toList_toArray) ?_ ?_); focus (first | exact Nat.le_of_ble_eq_true rfl | (simp only [List.length_cons, List.length_nil]; omega)))
        | ((with_reducible apply r_drawL); (focus kernel_rfl); (focus kernel_rfl); (focus (first | exact Nat.le_of_ble_eq_true rfl | (simp only [List.length_cons, List.length_nil]; omega))))
        | ((with_reducible apply r_end); focus (simp only [Nat.add_assoc, Nat.reduceAdd, Nat.zero_add] <;> rfl))
        | ((with_reducible (first | apply r_move | apply r_assign)); (focus (simp only [Tget_set, Nat.reduceEqDiff, ↓reduceIte, v6, v7, v8, v9] <;> rfl)); (focus (exact Nat.le_of_ble_eq_true rfl)))
        | ((with_reducible apply r_condT); (focus (simp only [Tget_set, ↓reduceIte] <;> rfl)))
        | ((with_reducible (first | apply r_any | apply r_cond)); focus (simp only [↓reduceIte, wantedA_eq, gBool_t, clsOf, clsCall, newBlk, allocOp, Fr.ev, evParts, ofV, ofA, ofS, put_mk, upd_mk, keyOf_mk, pureOp, readOp, rLd, oneCell_one, pBin, binA, intOp_gtr, pPick, List.length_nil, List.getElem?_cons_zero, List.getElem?_cons_succ, Nat.zero_add, Nat.reduceAdd, Nat.reduceLT, Nat.reduceEqDiff, loadA_w, loadW_s, heavyCall, binA, decide_false, stepOp, stHeavy, stV_mk, stB_mk, stO_mk, sz4, ag4, Tryz.underlying38, stepAny, wantedA_none, rCall, rLen, Tget_set, v16, hlen, pIA_s Tryz.underlying81 sz4 hil, hrow, rdi, List.length_nil, c00, Int.lt_irrefl, nBS_int sz2 zr2, aBuiltin, aApp, aApp2, ap, outOf, intOp_add (inR_succ hil (show N ≤ maxLen by omega))] <;> rfl))
        | (with_reducible rw [ifQ_t])
        | (with_reducible rw [ifQ_f])
        | (with_reducible refine ifQ_intro ?_ ?_ <;> intro hb))
        refine r_rq_n (k := N - (i + 1)) (by omega) ⟨_, _, _, i + 1, _, G + 1, rfl, rfl, by omega, by omega, rfl, by omega, by omega, (by first | (simp only [Tget_set, Nat.reduceEqDiff, ↓reduceIte, v0] <;> rfl) | rfl), (by first | (simp only [Tget_set, Nat.reduceEqDiff, ↓reduceIte, v5] <;> rfl) | rfl), (by first | (simp only [Tget_set, Nat.reduceEqDiff, ↓reduceIte] <;> rfl) | rfl), (by first | (simp only [Tget_set, Nat.reduceEqDiff, ↓reduceIte, v15] <;> rfl) | rfl), (by first | (simp only [Tget_set, ↓reduceIte] <;> rfl) | rfl), ?_, ?_, ?_⟩
        · exact ((hlow5.set (Nat.le_refl F)).kill hI5').set (Nat.le_refl F)
        · exact ((hEq5.set (.inl (Nat.lt_succ_self F)) (by omega)).kill hI5' (.inl (Nat.lt_succ_self F)) (by omega)).set (.inl (Nat.lt_succ_self F)) (by omega)
        · exact IL.new' (by omega) (ringsUp_hit (hdone.1 rfl))
      | false =>
        have hno : ¬ Pa (Ed N E) i i := fun hp => by have := hdone.2 hp; cases this
        repeat' (first
        | with_reducible refine r_seq ?_
        | with_reducible refine r_next ?_
        | with_reducible refine r_block ?_
        | with_reducible refine r_seq_exit ?_
        | with_reducible refine r_seq_ret ?_
        | with_reducible refine r_blk_n ?_
        | with_reducible refine r_blk_ret ?_
        | with_reducible refine r_blk_hit ?_
        | with_reducible refine r_blk_miss rfl ?_
        | with_reducible refine r_skip ?_
        | with_reducible refine r_exit ?_
        | with_reducible refine r_ret ?_
        | with_reducible refine r_rq_exit ?_
        | with_reducible refine r_rq_ret ?_
        | ((with_reducible apply r_regA); (focus (simp only [List.append_eq, List.cons_append, List.nil_append] <;> rfl)); (focus (first | exact Nat.le_of_ble_eq_true rfl | (simp only [List.length_cons, List.length_nil]; omega))))
        | ((with_reducible refine r_reg (List.toList_toArray) ?_ ?_); focus (first | exact Nat.le_of_ble_eq_true rfl | (simp only [List.length_cons, List.length_nil]; omega)))
        | ((with_reducible apply r_drawL); (focus kernel_rfl); (focus kernel_rfl); (focus (first | exact Nat.le_of_ble_eq_true rfl | (simp only [List.length_cons, List.length_nil]; omega))))
        | ((with_reducible apply r_end); focus (simp only [Nat.add_assoc, Nat.reduceAdd, Nat.zero_add] <;> rfl))
        | ((with_reducible (first | apply r_move | apply r_assign)); (focus (simp only [Tget_set, Nat.reduceEqDiff, ↓reduceIte, v7, v8, v9] <;> rfl)); (focus (exact Nat.le_of_ble_eq_true rfl)))
        | ((with_reducible apply r_condT); (focus (simp only [Tget_set, ↓reduceIte] <;> rfl)))
        | ((with_reducible (first | apply r_any | apply r_cond)); focus (simp only [↓reduceIte, wantedA_eq, gBool_t, clsOf, clsCall, Fr.ev, ofV, ofA, ofS, put_mk, pureOp, readOp, rLd, oneCell_one, pBin, binA, intOp_gtr, pPick, List.length_nil, List.getElem?_cons_zero, List.getElem?_cons_succ, Nat.zero_add, Nat.reduceLT, Nat.reduceEqDiff, loadA_w, loadW_s, binA, decide_false, stepOp, stV_mk, sz4, ag4, stepAny, wantedA_none, rCall, rLen, Tget_set, v16, hlen, pIA_s Tryz.underlying81 sz4 hil, hrow, rdi, List.length_nil, c00, Int.lt_irrefl, intOp_add (inR_succ hil (show N ≤ maxLen by omega))] <;> rfl))
        | (with_reducible rw [ifQ_t])
        | (with_reducible rw [ifQ_f])
        | (with_reducible refine ifQ_intro ?_ ?_ <;> intro hb))
        exact r_rq_n (k := N - (i + 1)) (by omega) ⟨_, _, _, i + 1, _, G + 1, rfl, rfl, by omega, by omega, rfl, by omega, by omega, (by first | (simp only [Tget_set, Nat.reduceEqDiff, ↓reduceIte, v0] <;> rfl) | rfl), (by first | (simp only [Tget_set, Nat.reduceEqDiff, ↓reduceIte, v5] <;> rfl) | rfl), (by first | (simp only [Tget_set, Nat.reduceEqDiff, ↓reduceIte, v6] <;> rfl) | rfl), (by first | (simp only [Tget_set, Nat.reduceEqDiff, ↓reduceIte, v15] <;> rfl) | rfl), (by first | (simp only [Tget_set, ↓reduceIte] <;> rfl) | rfl), hlow5, hEq5, by rw [ringsUp_miss hno]; exact hI5.up (by omega)⟩
    · have hgt : decide ((0 : Int) < ((ws.length + 1 : Nat) : Int)) = true := decide_eq_true (by omega)
      cases v with
      | true =>
        have hdone := hQI.done (.inr hv)
        rw [hv] at hdone
        repeat' (first
        | with_reducible refine r_seq ?_
        | with_reducible refine r_next ?_
        | with_reducible refine r_block ?_
        | with_reducible refine r_seq_exit ?_
        | with_reducible refine r_seq_ret ?_
        | with_reducible refine r_blk_n ?_
        | with_reducible refine r_blk_ret ?_
        | with_reducible refine r_blk_hit ?_
        | with_reducible refine r_blk_miss rfl ?_
        | with_reducible refine r_skip ?_
        | with_reducible refine r_exit ?_
        | with_reducible refine r_ret ?_
        | with_reducible refine r_rq_exit ?_
        | with_reducible refine r_rq_ret ?_
        | ((with_reducible apply r_regA); (focus (simp only [List.append_eq, List.cons_append, List.nil_append] <;> rfl)); (focus (first | exact Nat.le_of_ble_eq_true rfl | (simp only [List.length_cons, List.length_nil]; omega))))
        | ((with_reducible refine r_reg (List.toList_toArray) ?_ ?_); focus (first | exact Nat.le_of_ble_eq_true rfl | (simp only [List.length_cons, List.length_nil]; omega)))
        | ((with_reducible apply r_drawL); (focus kernel_rfl); (focus kernel_rfl); (focus (first | exact Nat.le_of_ble_eq_true rfl | (simp only [List.length_cons, List.length_nil]; omega))))
        | ((with_reducible apply r_end); focus (simp only [Nat.add_assoc, Nat.reduceAdd, Nat.zero_add] <;> rfl))
        | ((with_reducible (first | apply r_move | apply r_assign)); (focus (simp only [Tget_set, Nat.reduceEqDiff, ↓reduceIte, v6, v7, v8, v9] <;> rfl)); (focus (exact Nat.le_of_ble_eq_true rfl)))
        | ((with_reducible apply r_condT); (focus (simp only [Tget_set, ↓reduceIte] <;> rfl)))
        | ((with_reducible (first | apply r_any | apply r_cond)); focus (simp only [↓reduceIte, wantedA_eq, gBool_t, Bool.not_true, clsOf, clsCall, newBlk, allocOp, Fr.ev, evParts, ofV, ofA, ofS, put_mk, upd_mk, keyOf_mk, pureOp, readOp, rLd, oneCell_one, pBin, binA, intOp_gtr, pPick, List.length_cons, List.getElem?_cons_zero, List.getElem?_cons_succ, Nat.zero_add, Nat.reduceAdd, Nat.reduceLT, Nat.reduceEqDiff, loadA_w, loadW_s, pUn_not, heavyCall, binA, stepOp, stHeavy, stV_mk, stB_mk, stO_mk, sz4, ag4, Tryz.underlying38, stepAny, wantedA_none, rCall, rLen, Tget_set, v7, v8, v16, hlen, pIA_s Tryz.underlying81 sz4 hil, hrow, rdi, hgt, nBS_int sz2 zr2, aBuiltin, aApp, aApp2, ap, outOf, intOp_add (inR_succ hil (show N ≤ maxLen by omega))] <;> rfl))
        | (with_reducible rw [ifQ_t])
        | (with_reducible rw [ifQ_f])
        | (with_reducible refine ifQ_intro ?_ ?_ <;> intro hb))
        refine r_rq_n (k := N - (i + 1)) (by omega) ⟨_, _, _, i + 1, _, G + 1, rfl, rfl, by omega, by omega, rfl, by omega, by omega, (by first | (simp only [Tget_set, Nat.reduceEqDiff, ↓reduceIte, v0] <;> rfl) | rfl), (by first | (simp only [Tget_set, Nat.reduceEqDiff, ↓reduceIte, v5] <;> rfl) | rfl), (by first | (simp only [Tget_set, Nat.reduceEqDiff, ↓reduceIte] <;> rfl) | rfl), (by first | (simp only [Tget_set, Nat.reduceEqDiff, ↓reduceIte, v15] <;> rfl) | rfl), (by first | (simp only [Tget_set, ↓reduceIte] <;> rfl) | rfl), ?_, ?_, ?_⟩
        · exact ((hlow5.set (Nat.le_refl F)).kill hI5').set (Nat.le_refl F)
        · exact ((hEq5.set (.inl (Nat.lt_succ_self F)) (by omega)).kill hI5' (.inl (Nat.lt_succ_self F)) (by omega)).set (.inl (Nat.lt_succ_self F)) (by omega)
        · exact IL.new' (by omega) (ringsUp_hit (hdone.1 rfl))
      | false =>
        obtain ⟨k, rfl, hkN, hpk⟩ := hQI.rng w List.mem_cons_self
        rcases hlk with ⟨hx, _⟩ | ⟨G2, c2, hpos, hown⟩
        · cases hx
        obtain ⟨o2, eo2, cap2, rfl, rw2⟩ := OwnL.head (x := [.int .i64 (k : Int)]) (L := iL ws) hown rfl
        obtain ⟨lk', hsl, hown'⟩ := OwnL.tail (x := [.int .i64 (k : Int)]) (L := iL ws) Tryz.underlying38 sz2 hown
        rw [iL_len] at hsl
        simp only [Nat.zero_mul, Nat.add_zero] at rw2
        have hi0 : 0 < (iL ws).length + 1 := by omega
        have pI0 : ∀ id : Nat, pIA Tryz.prog 38 (some (.slice id o2 eo2 ((iL ws).length + 1) cap2)) (some (.int .i64 (0 : Int))) = some (.ptr id (o2 + 0 * 1)) := fun (id : Nat) => pIA_s (P := Tryz.prog) (id := id) (off := o2) (eo := eo2) (cap := cap2) Tryz.underlying38 sz2 hi0
        rw [iL_len] at pI0
        obtain ⟨v2, hv2⟩ : ∃ v, b[k]? = some v := ⟨b[k]'(by omega), by simp⟩
        have rdk := rd_b hv2
        cases v2 with
        | true =>
          repeat' (first
          | with_reducible refine r_seq ?_
          | with_reducible refine r_next ?_
          | with_reducible refine r_block ?_
          | with_reducible refine r_seq_exit ?_
          | with_reducible refine r_seq_ret ?_
          | with_reducible refine r_blk_n ?_
          | with_reducible refine r_blk_ret ?_
          | with_reducible refine r_blk_hit ?_
          | with_reducible refine r_blk_miss rfl ?_
          | with_reducible refine r_skip ?_
          | with_reducible refine r_exit ?_
          | with_reducible refine r_ret ?_
          | with_reducible refine r_rq_exit ?_
          | with_reducible refine r_rq_ret ?_
          | ((with_reducible apply r_regA); (focus (simp only [List.append_eq, List.cons_append, List.nil_append] <;> rfl)); (focus (first | exact Nat.le_of_ble_eq_true rfl | (simp only [List.length_cons, List.length_nil]; omega))))
          | ((with_reducible refine r_reg (List.toList_toArray) ?_ ?_); focus (first | exact Nat.le_of_ble_eq_true rfl | (simp only [List.length_cons, List.length_nil]; omega)))
          | ((with_reducible apply r_drawL); (focus kernel_rfl); (focus kernel_rfl); (focus (first | exact Nat.le_of_ble_eq_true rfl | (simp only [List.length_cons, List.length_nil]; omega))))
          | ((with_reducible apply r_end); focus (simp only [Nat.add_assoc, Nat.reduceAdd, Nat.zero_add] <;> rfl))
          | ((with_reducible (first | apply r_move | apply r_assign)); (focus (simp only [Tget_set, Nat.reduceEqDiff, ↓reduceIte, v8, v9] <;> rfl)); (focus (exact Nat.le_of_ble_eq_true rfl)))
          | ((with_reducible apply r_condT); (focus (simp only [Tget_set, ↓reduceIte] <;> rfl)))
          | ((with_reducible (first | apply r_any | apply r_cond)); focus (simp only [↓reduceIte, wantedA_eq, gBool_t, Bool.not_true, Bool.not_false, clsOf, clsCall, Fr.ev, ofV, ofA, ofS, put_mk, pureOp, readOp, rLd, oneCell_one, pBin, binA, intOp_gtr, pPick, List.getElem?_cons_zero, List.getElem?_cons_succ, Nat.zero_add, Nat.add_zero, Nat.reduceLT, Nat.reduceEqDiff, loadA_w, loadW_s, pUn_not, binA, stepOp, stV_mk, sz2, ag2, sz4, ag4, Tryz.underlying38, stepAny, wantedA_none, rCall, rLen, rLen1_sl, lenA, Tget_set, v7, v8, pIA_s Tryz.underlying81 sz4 hil, hrow, rdi, hgt, pI0, rw2, rSl, pSlice, evO, hsl, Nat.zero_mul, pIA_s Tryz.underlying81 sz4 hkN, rdk, iL_len] <;> rfl))
          | (with_reducible rw [ifQ_t])
          | (with_reducible rw [ifQ_f])
          | (with_reducible refine ifQ_intro ?_ ?_ <;> intro hb))
          exact r_rq_n (k := ws.length + rest b (gOf N E)) (by simp only [List.length_cons]; omega) ⟨_, _, _, b, lk', ws, rfl, rfl, rfl, by omega, by simp only [List.length_cons] at hlc2; omega, (by first | (simp only [Tget_set, Nat.reduceEqDiff, ↓reduceIte, v0] <;> rfl) | rfl), (by first | (simp only [Tget_set, Nat.reduceEqDiff, ↓reduceIte, v5] <;> rfl) | rfl), (by first | (simp only [Tget_set, Nat.reduceEqDiff, ↓reduceIte, v6] <;> rfl) | rfl), (by first | (simp only [Tget_set, Nat.reduceEqDiff, ↓reduceIte, v7] <;> rfl) | rfl), (by first | (simp only [Tget_set, Nat.reduceEqDiff, ↓reduceIte, v8] <;> rfl) | rfl), (by first | (simp only [Tget_set, Nat.reduceEqDiff, ↓reduceIte] <;> rfl) | rfl), (by first | (simp only [Tget_set, Nat.reduceEqDiff, ↓reduceIte, v15] <;> rfl) | rfl), (by first | (simp only [Tget_set, Nat.reduceEqDiff, ↓reduceIte, v16] <;> rfl) | rfl), hev, hrow, .inr ⟨G2, c2, by omega, hown'⟩, hQI.old hv2⟩
        | false =>
          have hgk : (gOf N E)[k]? = some (outs N E k) := gOf_get hkN
          have hrs := rest_set hv2 hgk
          have hok := outs_len N E k
          obtain ⟨b9, o9, eo9, cap9, xk, e9, _, _, rk, hxk⟩ := (hg1.move hEq5).at (i := k) (l := iL (outs N E k)) (by rw [List.getElem?_map, hgk]; rfl)
          rw [List.length_map, gOf_len] at e9
          cases e9
          have hkb : k < b.length := by omega
          obtain ⟨lk2, h7, hap, hlk7, hrow7, hev7⟩ := LK.app (P := Tryz.prog) (h := hset h5 (ky F (lc + 3 + 1)) (bRow (b.set k true))) (k := lc2 + 26 + 5) (F := F) (cs := lc + 3 + 1) (lc := lc2) (B := F + 1 + 1) Tryz.underlying38 sz2 by2 zo2 (by omega) hpos (own_set hpos hown' (.inr (Nat.le_refl _)) (by omega)) (hxk.move ((EqI.refl _ _ _).set (.inl (Nat.lt_succ_self F)) (by omega))).p (zk := outs N E k) (by have := hlc2; simp only [List.length_cons] at this; omega) (by omega) (by omega) (by omega) (by omega)
          have hev7' := hev7 h2 lc (F + 1) (by omega) (Nat.lt_succ_self F) (hev.set (by omega) (by omega) (.inl (Nat.lt_succ_self F)))
          repeat' (first
          | with_reducible refine r_seq ?_
          | with_reducible refine r_next ?_
          | with_reducible refine r_block ?_
          | with_reducible refine r_seq_exit ?_
          | with_reducible refine r_seq_ret ?_
          | with_reducible refine r_blk_n ?_
          | with_reducible refine r_blk_ret ?_
          | with_reducible refine r_blk_hit ?_
          | with_reducible refine r_blk_miss rfl ?_
          | with_reducible refine r_skip ?_
          | with_reducible refine r_exit ?_
          | with_reducible refine r_ret ?_
          | with_reducible refine r_rq_exit ?_
          | with_reducible refine r_rq_ret ?_
          | ((with_reducible apply r_regA); (focus (simp only [List.append_eq, List.cons_append, List.nil_append] <;> rfl)); (focus (first | exact Nat.le_of_ble_eq_true rfl | (simp only [List.length_cons, List.length_nil]; omega))))
          | ((with_reducible refine r_reg (List.toList_toArray) ?_ ?_); focus (first | exact Nat.le_of_ble_eq_true rfl | (simp only [List.length_cons, List.length_nil]; omega)))
          | ((with_reducible apply r_drawL); (focus kernel_rfl); (focus kernel_rfl); (focus (first | exact Nat.le_of_ble_eq_true rfl | (simp only [List.length_cons, List.length_nil]; omega))))
          | ((with_reducible apply r_end); focus (simp only [Nat.add_assoc, Nat.reduceAdd, Nat.zero_add] <;> rfl))
          | ((with_reducible (first | apply r_move | apply r_assign)); (focus (simp only [Tget_set, Nat.reduceEqDiff, ↓reduceIte, v5, v8, v9] <;> rfl)); (focus (exact Nat.le_of_ble_eq_true rfl)))
          | ((with_reducible apply r_condT); (focus (simp only [Tget_set, ↓reduceIte] <;> rfl)))
          | ((with_reducible (first | apply r_any | apply r_cond)); focus (simp only [↓reduceIte, wantedA_eq, gBool_t, Bool.not_false, clsOf, clsCall, Fr.ev, ofV, ofA, ofS, AV.cells, put_mk, put_none, keyOf_mk, pureOp, readOp, rLd, oneCell_one, hget_hset_ite, pBin, binA, intOp_gtr, pPick, List.length_cons, List.length_nil, List.getElem?_cons_zero, List.getElem?_cons_succ, Nat.zero_add, Nat.add_zero, Nat.reduceAdd, Nat.reduceLT, Nat.reduceEqDiff, loadA_w, loadW_s, aSt_w, stOut_s, pUn_not, heavyCall, actOp, binA, stepOp, stHeavy, stV_mk, stO_mk, sz2, ag2, sz4, ag4, sz38, ag38, Tryz.underlying38, stepAny, wantedA_none, rCall, rLen, rLen1_sl, lenA, Tget_set, v7, v8, pIA_s Tryz.underlying81 sz4 hil, hrow, rdi, hgt, pI0, rw2, rSl, pSlice, evO, hsl, Nat.zero_mul, pIA_s Tryz.underlying81 sz4 hkN, rdk, iL_len, wr_b hkb, pIA_s Tryz.underlying78 sz38 hkN, n1, rk, aBuiltin, aApp, aApp2, hap, outOf] <;> rfl))
          | (with_reducible rw [ifQ_t])
          | (with_reducible rw [ifQ_f])
          | (with_reducible refine ifQ_intro ?_ ?_ <;> intro hb))
          exact r_rq_n (k := (ws ++ outs N E k).length + rest (b.set k true) (gOf N E)) (by simp only [List.length_cons, List.length_append]; omega) ⟨_, _, _, b.set k true, lk2, ws ++ outs N E k, rfl, rfl, rfl, by omega, by simp only [List.length_cons, List.length_append] at hlc2 ⊢; omega, (by first | (simp only [Tget_set, Nat.reduceEqDiff, ↓reduceIte, v0] <;> rfl) | rfl), (by first | (simp only [Tget_set, Nat.reduceEqDiff, ↓reduceIte, v5] <;> rfl) | rfl), (by first | (simp only [Tget_set, Nat.reduceEqDiff, ↓reduceIte, v6] <;> rfl) | rfl), (by first | (simp only [Tget_set, Nat.reduceEqDiff, ↓reduceIte, v7] <;> rfl) | rfl), (by first | (simp only [Tget_set, Nat.reduceEqDiff, ↓reduceIte, v8] <;> rfl) | rfl), (by first | (simp only [Tget_set, ↓reduceIte] <;> rfl) | rfl), (by first | (simp only [Tget_set, Nat.reduceEqDiff, ↓reduceIte, v15] <;> rfl) | rfl), (by first | (simp only [Tget_set, Nat.reduceEqDiff, ↓reduceIte, v16] <;> rfl) | rfl), hev7', by rw [hrow7, hget_hset, if_pos rfl], hlk7.up (by omega), hQI.new hkN⟩
  · have hend : i = N := by omega
    subst hend
    rw [ringsUp_all] at hI
    repeat' (first
    | with_reducible refine r_seq ?_
    | with_reducible refine r_next ?_
    | with_reducible refine r_block ?_
    | with_reducible refine r_seq_exit ?_
    | with_reducible refine r_seq_ret ?_
    | with_reducible refine r_blk_n ?_
    | with_reducible refine r_blk_ret ?_
    | with_reducible refine r_blk_hit ?_
    | with_reducible refine r_blk_miss rfl ?_
    | with_reducible refine r_skip ?_
    | with_reducible refine r_exit ?_
    | with_reducible refine r_ret ?_
    | with_reducible refine r_rq_exit ?_
    | with_reducible refine r_rq_ret ?_
    | ((with_reducible apply r_regA); (focus (simp only [List.append_eq, List.cons_append, List.nil_append] <;> rfl)); (focus (first | exact Nat.le_of_ble_eq_true rfl | (simp only [List.length_cons, List.length_nil]; omega))))
    | ((with_reducible refine r_reg (List.toList_toArray) ?_ ?_); focus (first | exact Nat.le_of_ble_eq_true rfl | (simp only [List.length_cons, List.length_nil]; omega)))
    | ((with_reducible apply r_drawL); (focus kernel_rfl); (focus kernel_rfl); (focus (first | exact Nat.le_of_ble_eq_true rfl | (simp only [List.length_cons, List.length_nil]; omega))))
    | ((with_reducible apply r_end); focus (simp only [Nat.add_assoc, Nat.reduceAdd, Nat.zero_add] <;> rfl))
    | ((with_reducible (first | apply r_move | apply r_assign)); (focus (simp only [Tget_set, Nat.reduceEqDiff, ↓reduceIte, u6] <;> rfl)); (focus (exact Nat.le_of_ble_eq_true rfl)))
    | ((with_reducible apply r_condT); (focus (simp only [Tget_set, ↓reduceIte] <;> rfl)))
    | ((with_reducible (first | apply r_any | apply r_cond)); focus (simp only [↓reduceIte, clsOf, Fr.ev, put_mk, pureOp, pBin, binA, intOp_lss, Nat.reduceLT, binA, stepOp, stV_mk, stepAny, wantedA_none, u15, u16, lt_f (Nat.lt_irrefl i)] <;> rfl))
    | (with_reducible rw [ifQ_t])
    | (with_reducible rw [ifQ_f])
    | (with_reducible refine ifQ_intro ?_ ?_ <;> intro hb))
    subst hQ
    refine ret_back (by simp only [Tryz.results13, resultOf, resultsA, resultA, List.toList_toArray, Fr.ev, Tget_set, ↓reduceIte] <;> rfl) ?_
    refine ⟨_, _, _, rfl, by omega, hS, hS.same hw, ?_⟩
    rw [hN, hE]
    refine il_lstI hI (fun z hz => ?_) ?_ (by omega)
    · rw [← ringsUp_all] at hz; have := ringsUp_in z hz; omega
    · rw [← ringsUp_all]; have := ringsUp_len i E i; omega

end Go.Proofs.YtpgkhpfogjclhaaGreatDoor
