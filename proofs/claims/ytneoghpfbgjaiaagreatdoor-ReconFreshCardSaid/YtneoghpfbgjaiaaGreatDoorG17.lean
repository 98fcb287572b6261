/- A part of the proof of the law ReconFresh. CONDITIONS: those that each theorem names. -/
import Derived.Test.YtneoghpfbgjaiaaGreatDoorG16
namespace Go.Proofs.YtneoghpfbgjaiaaGreatDoor
open Go Go.Ai
set_option maxRecDepth 100000

theorem nBSx (key : Nat) : nBS Tryz.prog key 0 (some (.slice 117)) (some []) = some (.slice key 0 0 0 (some 0), mkRow [] 4) := by
  rw [← nBS27 key, Tryz.underlying27]

theorem clone117 (h : Heap) (F : Nat) (a : AV) (L : List (List AV)) (hL : LstP h ksI a L) (h3 : L.length ≤ 1000) : ∃ a' h', Snd Tryz.prog [] 117 [a] ⟨h, F⟩ [.val a' ⟨h', F + 1⟩] ∧ (Wf ⟨h, F⟩ → SameH h h') ∧ LstP h' ksI a' L := by
  by_cases hp : 0 < L.length
  · rcases hL.2.2 with ⟨_, rfl⟩ | ⟨b, o, eo, cap, rfl, hr⟩
    · simp at hp
    refine ⟨.slice (ky F 5) 0 0 L.length none, hset (hset h (ky F 3) (mkRow [] 4)) (ky F 5) (mkRow L.flatten 4), ?_, fun hw => SameH.hset hw (SameH.hset hw (SameH.refl _) (ky_le _ _)) (ky_le _ _), lst_new hL.1 hL.2.1 (hget_same _ _ _)⟩
    refine snd_wf fun hw => snd_one ?_
    have hL1 : LstP (hset h (ky F 3) (mkRow [] 4)) ksI (.slice b o eo L.length cap) L := hL.same (SameH.hset hw (SameH.refl _) (ky_le _ _))
    have happ := append_L1 (key := ky F 5) (id := ky F 3) (s := ⟨hset h (ky F 3) (mkRow [] 4), F + 1⟩) hL1 hp h3 (hget_same _ _ _)
    refine sndQ_body (K := K0) kok0 mixed noNum (m := 0) Tryz.func117 ?_
    generalize hQ : retQ _ _ _ _ _ _ = Q0
    refine body_go (c := Tryz.f117.body.getD .skip) (n := 8) rfl rfl (by simp only [↓reduceIte, T.setList, T.set_e] <;> rfl) ?_
    simp only [Tryz.f117, Option.getD_some]
    repeat' (first
    | with_reducible refine r_seq ?_
    | with_reducible refine r_next ?_
    | with_reducible refine r_block ?_
    | with_reducible refine r_seq_exit ?_
    | with_reducible refine r_seq_ret ?_
    | with_reducible refine r_blk_n ?_
    | with_reducible refine r_blk_ret ?_
    | with_reducible refine r_blk_hit ?_
    | with_reducible refine r_blk_miss rfl ?_
    | with_reducible refine r_skip ?_
    | with_reducible refine r_exit ?_
    | with_reducible refine r_ret ?_
    | with_reducible refine r_rq_exit ?_
    | with_reducible refine r_rq_ret ?_
    | ((with_reducible apply r_regA); (focus (simp only [List.append_eq, List.cons_append, List.nil_append] <;> rfl)); (focus (first | exact Nat.le_of_ble_eq_true rfl | (simp only [List.length_cons, List.length_nil]; omega))))
    | ((with_reducible refine r_reg (List.toList_toArray) ?_ ?_); focus (first | exact Nat.le_of_ble_eq_true rfl | (simp only [List.length_cons, List.length_nil]; omega)))
    | ((with_reducible apply r_end); focus (simp only [Nat.reduceAdd, Nat.zero_add] <;> rfl))
    | ((with_reducible (first | apply r_any | apply r_cond)); focus (simp only [↓reduceIte, clsOf, clsCall, newBlk, allocOp, Fr.ev, evParts, ofV, ofA, ofS, put_mk, upd_mk, keyOf_mk, pureOp, pBin, binA, Nat.zero_add, Nat.add_zero, Nat.reduceAdd, Nat.reduceLT, Nat.reduceEqDiff, Nat.reduceSub, heavyCall, binA, eqIn, eqGuardOk, stepOp, stHeavy, stV_mk, stB_mk, stO_mk, T.get_n, T.set_n, T.set_e, Nat.reduceDiv, Nat.reduceMod, Tryz.underlying27, stepAny, wantedA_none, nBSx, aBuiltin, aApp, aApp2, outOf, happ] <;> rfl))
    | (with_reducible rw [ifQ_t])
    | (with_reducible rw [ifQ_f])
    | (with_reducible refine ifQ_intro ?_ ?_ <;> intro hb))
    subst hQ
    refine ret_back (by simp only [↓reduceIte, Fr.ev, Nat.reduceEqDiff, Nat.reduceSub, List.toList_toArray, T.get_n, Nat.reduceDiv, Nat.reduceMod, Tryz.results117, resultOf, resultsA, resultA] <;> rfl) ?_
    rfl
  have hz : L = [] := List.length_eq_zero_iff.1 (by omega)
  subst hz
  rcases hL.2.2 with ⟨rfl, _⟩ | ⟨b, o, eo, cap, rfl, hr⟩
  · refine ⟨.nils, h, ?_, fun _ => SameH.refl _, hL⟩
    refine snd_wf fun hw => snd_one ?_
    refine sndQ_body (K := K0) kok0 mixed noNum (m := 0) Tryz.func117 ?_
    generalize hQ : retQ _ _ _ _ _ _ = Q0
    refine body_go (c := Tryz.f117.body.getD .skip) (n := 8) rfl rfl (by simp only [↓reduceIte, T.setList, T.set_e] <;> rfl) ?_
    simp only [Tryz.f117, Option.getD_some]
    repeat' (first
    | with_reducible refine r_seq ?_
    | with_reducible refine r_next ?_
    | with_reducible refine r_block ?_
    | with_reducible refine r_seq_exit ?_
    | with_reducible refine r_seq_ret ?_
    | with_reducible refine r_blk_n ?_
    | with_reducible refine r_blk_ret ?_
    | with_reducible refine r_blk_hit ?_
    | with_reducible refine r_blk_miss rfl ?_
    | with_reducible refine r_skip ?_
    | with_reducible refine r_exit ?_
    | with_reducible refine r_ret ?_
    | with_reducible refine r_rq_exit ?_
    | with_reducible refine r_rq_ret ?_
    | ((with_reducible apply r_regA); (focus (simp only [List.append_eq, List.cons_append, List.nil_append] <;> rfl)); (focus (first | exact Nat.le_of_ble_eq_true rfl | (simp only [List.length_cons, List.length_nil]; omega))))
    | ((with_reducible refine r_reg (List.toList_toArray) ?_ ?_); focus (first | exact Nat.le_of_ble_eq_true rfl | (simp only [List.length_cons, List.length_nil]; omega)))
    | ((with_reducible apply r_end); focus (simp only [Nat.reduceAdd, Nat.zero_add] <;> rfl))
    | ((with_reducible (first | apply r_any | apply r_cond)); focus (simp only [↓reduceIte, clsOf, Fr.ev, ofV, ofA, ofS, put_mk, pureOp, pBin, binA, Nat.reduceLT, Nat.reduceEqDiff, Nat.reduceSub, binA, eqIn, eqGuardOk, stepOp, stV_mk, T.get_n, T.set_n, T.set_e, Nat.reduceDiv, Nat.reduceMod, Tryz.underlying27, stepAny, wantedA_none] <;> rfl))
    | (with_reducible rw [ifQ_t])
    | (with_reducible rw [ifQ_f])
    | (with_reducible refine ifQ_intro ?_ ?_ <;> intro hb))
    subst hQ
    refine ret_back (by simp only [↓reduceIte, Fr.ev, Nat.reduceEqDiff, Nat.reduceSub, List.toList_toArray, T.get_n, Nat.reduceDiv, Nat.reduceMod, Tryz.results117, resultOf, resultsA, resultA] <;> rfl) ?_
    rfl
  · refine ⟨.slice (ky F 3) 0 0 0 (some 0), hset h (ky F 3) (mkRow [] 4), ?_, fun hw => SameH.hset hw (SameH.refl _) (ky_le _ _), lst_none⟩
    refine snd_wf fun hw => snd_one ?_
    have hL1 : LstP (hset h (ky F 3) (mkRow [] 4)) ksI (.slice b o eo 0 cap) [] := hL.same (SameH.hset hw (SameH.refl _) (ky_le _ _))
    have happ := append_L0 (key := ky F 5) (id := ky F 3) (s := ⟨hset h (ky F 3) (mkRow [] 4), F + 1⟩) hL1
    refine sndQ_body (K := K0) kok0 mixed noNum (m := 0) Tryz.func117 ?_
    generalize hQ : retQ _ _ _ _ _ _ = Q0
    refine body_go (c := Tryz.f117.body.getD .skip) (n := 8) rfl rfl (by simp only [↓reduceIte, T.setList, T.set_e] <;> rfl) ?_
    simp only [Tryz.f117, Option.getD_some]
    repeat' (first
    | with_reducible refine r_seq ?_
    | with_reducible refine r_next ?_
    | with_reducible refine r_block ?_
    | with_reducible refine r_seq_exit ?_
    | with_reducible refine r_seq_ret ?_
    | with_reducible refine r_blk_n ?_
    | with_reducible refine r_blk_ret ?_
    | with_reducible refine r_blk_hit ?_
    | with_reducible refine r_blk_miss rfl ?_
    | with_reducible refine r_skip ?_
    | with_reducible refine r_exit ?_
    | with_reducible refine r_ret ?_
    | with_reducible refine r_rq_exit ?_
    | with_reducible refine r_rq_ret ?_
    | ((with_reducible apply r_regA); (focus (simp only [List.append_eq, List.cons_append, List.nil_append] <;> rfl)); (focus (first | exact Nat.le_of_ble_eq_true rfl | (simp only [List.length_cons, List.length_nil]; omega))))
    | ((with_reducible refine r_reg (List.toList_toArray) ?_ ?_); focus (first | exact Nat.le_of_ble_eq_true rfl | (simp only [List.length_cons, List.length_nil]; omega)))
    | ((with_reducible apply r_end); focus (simp only [Nat.reduceAdd, Nat.zero_add] <;> rfl))
    | ((with_reducible (first | apply r_any | apply r_cond)); focus (simp only [↓reduceIte, clsOf, clsCall, newBlk, allocOp, Fr.ev, evParts, ofV, ofA, ofS, put_mk, upd_mk, keyOf_mk, pureOp, pBin, binA, List.length_nil, Nat.zero_add, Nat.add_zero, Nat.reduceAdd, Nat.reduceLT, Nat.reduceEqDiff, Nat.reduceSub, heavyCall, binA, eqIn, eqGuardOk, stepOp, stHeavy, stV_mk, stB_mk, stO_mk, T.get_n, T.set_n, T.set_e, Nat.reduceDiv, Nat.reduceMod, Tryz.underlying27, stepAny, wantedA_none, nBSx, aBuiltin, aApp, aApp2, outOf, happ] <;> rfl))
    | (with_reducible rw [ifQ_t])
    | (with_reducible rw [ifQ_f])
    | (with_reducible refine ifQ_intro ?_ ?_ <;> intro hb))
    subst hQ
    refine ret_back (by simp only [↓reduceIte, Fr.ev, Nat.reduceEqDiff, Nat.reduceSub, List.toList_toArray, T.get_n, Nat.reduceDiv, Nat.reduceMod, Tryz.results117, resultOf, resultsA, resultA] <;> rfl) ?_
    rfl

theorem items67 (h : Heap) (F : Nat) (a : AV) (L : List (List AV)) (hL : LstP h ksI a L) (h3 : L.length ≤ 1000) : ∃ a' h' F', Snd Tryz.prog [] 67 [a] ⟨h, F⟩ [.val (.iface 226 (.agg [a'])) ⟨h', F'⟩] ∧ (Wf ⟨h, F⟩ → SameH h h') ∧ LstP h' ksI a' L := by
  obtain ⟨a', h', hs, hsame, hl⟩ := clone117 h (F + 1) a L hL h3
  refine ⟨a', h', F + 1 + 1, ?_, fun hw => hsame (wf_up hw (Nat.le_succ F)), hl⟩
  refine snd_one ?_
  have hc : a' = .nils ∨ ∃ b o eo n cap, a' = .slice b o eo n cap := by
    rcases hl.2.2 with ⟨e, _⟩ | ⟨b, o, eo, cap, e, _⟩
    · exact .inl e
    · exact .inr ⟨_, _, _, _, _, e⟩
  rcases hc with rfl | ⟨b, o, eo, n, cap, rfl⟩
  · refine sndQ_body (K := (point K0 117 [a] ⟨h, F + 1⟩ [.val .nils ⟨h', F + 1 + 1⟩])) (point_ok kok0 hs) mixed noNum (m := 0) Tryz.func67 ?_
    generalize hQ : retQ _ _ _ _ _ _ = Q0
    refine body_go (c := Tryz.f67.body.getD .skip) (n := 7) rfl rfl (by simp only [↓reduceIte, T.setList, T.set_e] <;> rfl) ?_
    simp only [Tryz.f67, Option.getD_some]
    repeat' (first
    | with_reducible refine r_seq ?_
    | with_reducible refine r_next ?_
    | with_reducible refine r_block ?_
    | with_reducible refine r_seq_exit ?_
    | with_reducible refine r_seq_ret ?_
    | with_reducible refine r_blk_n ?_
    | with_reducible refine r_blk_ret ?_
    | with_reducible refine r_blk_hit ?_
    | with_reducible refine r_blk_miss rfl ?_
    | with_reducible refine r_skip ?_
    | with_reducible refine r_exit ?_
    | with_reducible refine r_ret ?_
    | with_reducible refine r_rq_exit ?_
    | with_reducible refine r_rq_ret ?_
    | ((with_reducible apply r_regA); (focus (simp only [List.append_eq, List.cons_append, List.nil_append] <;> rfl)); (focus (first | exact Nat.le_of_ble_eq_true rfl | (simp only [List.length_cons, List.length_nil]; omega))))
    | ((with_reducible refine r_reg (List.toList_toArray) ?_ ?_); focus (first | exact Nat.le_of_ble_eq_true rfl | (simp only [List.length_cons, List.length_nil]; omega)))
    | ((with_reducible apply r_end); focus (simp only [Nat.reduceAdd, Nat.zero_add] <;> rfl))
    | ((with_reducible (first | apply r_any | apply r_cond)); focus (simp only [↓reduceIte, clsOf, clsCall, Fr.ev, evs, evParts, ofV, ofA, ofS, AV.cells, put_mk, pureOp, List.length_cons, List.length_nil, List.getElem?_cons_zero, Nat.zero_add, Nat.reduceLT, Nat.reduceEqDiff, Nat.reduceSub, callTo_s, heavyCall, target, List.nil_append, List.append_nil, pBuild, pBuild2, fieldsOk, buildParts, stepOp, stHeavy, stV_mk, stO_mk, T.get_n, T.set_n, T.set_e, Nat.reduceDiv, Nat.reduceMod, sz27, zr226, Tryz.underlying226, stepAny, wantedA_none, point_hit] <;> rfl))
    | (with_reducible rw [ifQ_t])
    | (with_reducible rw [ifQ_f])
    | (with_reducible refine ifQ_intro ?_ ?_ <;> intro hb))
    subst hQ
    refine ret_back (by simp only [↓reduceIte, Fr.ev, Nat.reduceEqDiff, Nat.reduceSub, List.toList_toArray, T.get_n, Nat.reduceDiv, Nat.reduceMod, Tryz.results67, resultOf, resultsA, resultA] <;> rfl) ?_
    rfl
  
  · refine sndQ_body (K := (point K0 117 [a] ⟨h, F + 1⟩ [.val (.slice b o eo n cap) ⟨h', F + 1 + 1⟩])) (point_ok kok0 hs) mixed noNum (m := 0) Tryz.func67 ?_
    generalize hQ : retQ _ _ _ _ _ _ = Q0
    refine body_go (c := Tryz.f67.body.getD .skip) (n := 7) rfl rfl (by simp only [↓reduceIte, T.setList, T.set_e] <;> rfl) ?_
    simp only [Tryz.f67, Option.getD_some]
    repeat' (first
    | with_reducible refine r_seq ?_
    | with_reducible refine r_next ?_
    | with_reducible refine r_block ?_
    | with_reducible refine r_seq_exit ?_
    | with_reducible refine r_seq_ret ?_
    | with_reducible refine r_blk_n ?_
    | with_reducible refine r_blk_ret ?_
    | with_reducible refine r_blk_hit ?_
    | with_reducible refine r_blk_miss rfl ?_
    | with_reducible refine r_skip ?_
    | with_reducible refine r_exit ?_
    | with_reducible refine r_ret ?_
    | with_reducible refine r_rq_exit ?_
    | with_reducible refine r_rq_ret ?_
    | ((with_reducible apply r_regA); (focus (simp only [List.append_eq, List.cons_append, List.nil_append] <;> rfl)); (focus (first | exact Nat.le_of_ble_eq_true rfl | (simp only [List.length_cons, List.length_nil]; omega))))
    | ((with_reducible refine r_reg (List.toList_toArray) ?_ ?_); focus (first | exact Nat.le_of_ble_eq_true rfl | (simp only [List.length_cons, List.length_nil]; omega)))
    | ((with_reducible apply r_end); focus (simp only [Nat.reduceAdd, Nat.zero_add] <;> rfl))
    | ((with_reducible (first | apply r_any | apply r_cond)); focus (simp only [↓reduceIte, clsOf, clsCall, Fr.ev, evs, evParts, ofV, ofA, ofS, AV.cells, put_mk, pureOp, List.length_cons, List.length_nil, List.getElem?_cons_zero, Nat.zero_add, Nat.reduceLT, Nat.reduceEqDiff, Nat.reduceSub, callTo_s, heavyCall, target, List.nil_append, List.append_nil, pBuild, pBuild2, fieldsOk, buildParts, stepOp, stHeavy, stV_mk, stO_mk, T.get_n, T.set_n, T.set_e, Nat.reduceDiv, Nat.reduceMod, sz27, zr226, Tryz.underlying226, stepAny, wantedA_none, point_hit] <;> rfl))
    | (with_reducible rw [ifQ_t])
    | (with_reducible rw [ifQ_f])
    | (with_reducible refine ifQ_intro ?_ ?_ <;> intro hb))
    subst hQ
    refine ret_back (by simp only [↓reduceIte, Fr.ev, Nat.reduceEqDiff, Nat.reduceSub, List.toList_toArray, T.get_n, Nat.reduceDiv, Nat.reduceMod, Tryz.results67, resultOf, resultsA, resultA] <;> rfl) ?_
    rfl
  
theorem source16 (h : Heap) (F : Nat) (a : AV) (L : List (List AV)) (hL : LstP h ksI a L) (h3 : L.length ≤ 1000) : ∃ a' h' F', Snd Tryz.prog [] 16 [a, .bool false] ⟨h, F⟩ [.val (.iface 226 (.agg [a'])) ⟨h', F'⟩] ∧ (Wf ⟨h, F⟩ → SameH h h') ∧ LstP h' ksI a' L := by
  by_cases hw : Wf ⟨h, F⟩
  · have hs0 : SameH h (hset h (ky F 2) (mkRow [] 4)) := SameH.hset hw (SameH.refl _) (ky_le _ _)
    have hw0 : Wf ⟨hset h (ky F 2) (mkRow [] 4), F + 1⟩ := wf_hset (wf_up hw (Nat.le_succ F)) (Nat.le_of_ble_eq_true rfl)
    by_cases hp : 0 < L.length
    · have happ := append_L1 (key := ky F 4) (id := ky F 2) (s := ⟨hset h (ky F 2) (mkRow [] 4), F + 1⟩) (hL.same hs0) hp h3 (hget_same _ _ _)
      have hs1 : SameH h (hset (hset h (ky F 2) (mkRow [] 4)) (ky F 4) (mkRow L.flatten 4)) := SameH.hset hw hs0 (ky_le _ _)
      have hw1 : Wf ⟨hset (hset h (ky F 2) (mkRow [] 4)) (ky F 4) (mkRow L.flatten 4), F + 1⟩ := wf_hset hw0 (Nat.le_of_ble_eq_true rfl)
      obtain ⟨a', h', F', hs, hsame, hl⟩ := items67 (hset (hset h (ky F 2) (mkRow [] 4)) (ky F 4) (mkRow L.flatten 4)) (F + 1) (.slice (ky F 4) 0 0 L.length none) L (lst_new hL.1 hL.2.1 (hget_same _ _ _)) h3
      refine ⟨a', h', F', ?_, fun _ => hs1.trans (hsame hw1), hl⟩
      refine snd_one ?_
      refine sndQ_body (K := (point K0 67 [.slice (ky F 4) 0 0 L.length none] ⟨hset (hset h (ky F 2) (mkRow [] 4)) (ky F 4) (mkRow L.flatten 4), F + 1⟩ [.val (.iface 226 (.agg [a'])) ⟨h', F'⟩])) (point_ok kok0 hs) mixed noNum (m := 0) Tryz.func16 ?_
      generalize hQ : retQ _ _ _ _ _ _ = Q0
      refine body_go (c := Tryz.f16.body.getD .skip) (n := 10) rfl rfl (by simp only [↓reduceIte, T.setList, T.set_e, T.set_n, Nat.reduceDiv, Nat.reduceMod, Nat.reduceEqDiff, Nat.zero_add] <;> rfl) ?_
      simp only [Tryz.f16, Option.getD_some]
      repeat' (first
      | with_reducible refine r_seq ?_
      | with_reducible refine r_next ?_
      | with_reducible refine r_block ?_
      | with_reducible refine r_seq_exit ?_
      | with_reducible refine r_seq_ret ?_
      | with_reducible refine r_blk_n ?_
      | with_reducible refine r_blk_ret ?_
      | with_reducible refine r_blk_hit ?_
      | with_reducible refine r_blk_miss rfl ?_
      | with_reducible refine r_skip ?_
      | with_reducible refine r_exit ?_
      | with_reducible refine r_ret ?_
      | with_reducible refine r_rq_exit ?_
      | with_reducible refine r_rq_ret ?_
      | ((with_reducible apply r_regA); (focus (simp only [List.append_eq, List.cons_append, List.nil_append] <;> rfl)); (focus (first | exact Nat.le_of_ble_eq_true rfl | (simp only [List.length_cons, List.length_nil]; omega))))
      | ((with_reducible refine r_reg (List.toList_toArray) ?_ ?_); focus (first | exact Nat.le_of_ble_eq_true rfl | (simp only [List.length_cons, List.length_nil]; omega)))
      | ((with_reducible apply r_end); focus (simp only [Nat.reduceAdd, Nat.zero_add] <;> rfl))
      | ((with_reducible (first | apply r_any | apply r_cond)); focus (simp only [↓reduceIte, clsOf, clsCall, newBlk, allocOp, Fr.ev, evs, evParts, ofV, ofA, ofS, put_mk, upd_mk, keyOf_mk, pureOp, Nat.zero_add, Nat.add_zero, Nat.reduceAdd, Nat.reduceLT, Nat.reduceEqDiff, Nat.reduceSub, callTo_s, heavyCall, target, List.nil_append, List.append_nil, stepOp, stHeavy, stV_mk, stB_mk, stO_mk, T.get_n, T.set_n, T.set_e, Nat.reduceDiv, Nat.reduceMod, Tryz.underlying27, stepAny, wantedA_none, point_hit, nBSx, aBuiltin, aApp, aApp2, outOf, happ] <;> rfl))
      | (with_reducible rw [ifQ_t])
      | (with_reducible rw [ifQ_f])
      | (with_reducible refine ifQ_intro ?_ ?_ <;> intro hb))
      subst hQ
      refine ret_back (by simp only [↓reduceIte, Fr.ev, Nat.reduceEqDiff, Nat.reduceSub, List.toList_toArray, T.get_n, Nat.reduceDiv, Nat.reduceMod, Tryz.results16, resultOf, resultsA, resultA] <;> rfl) ?_
      rfl
    · have hz : L = [] := List.length_eq_zero_iff.1 (by omega)
      subst hz
      have happ := append_L0 (key := ky F 4) (id := ky F 2) (s := ⟨hset h (ky F 2) (mkRow [] 4), F + 1⟩) (hL.same hs0)
      obtain ⟨a', h', F', hs, hsame, hl⟩ := items67 (hset h (ky F 2) (mkRow [] 4)) (F + 1) (.slice (ky F 2) 0 0 0 (some 0)) [] lst_none h3
      refine ⟨a', h', F', ?_, fun _ => hs0.trans (hsame hw0), hl⟩
      refine snd_one ?_
      refine sndQ_body (K := (point K0 67 [.slice (ky F 2) 0 0 0 (some 0)] ⟨hset h (ky F 2) (mkRow [] 4), F + 1⟩ [.val (.iface 226 (.agg [a'])) ⟨h', F'⟩])) (point_ok kok0 hs) mixed noNum (m := 0) Tryz.func16 ?_
      generalize hQ : retQ _ _ _ _ _ _ = Q0
      refine body_go (c := Tryz.f16.body.getD .skip) (n := 10) rfl rfl (by simp only [↓reduceIte, T.setList, T.set_e, T.set_n, Nat.reduceDiv, Nat.reduceMod, Nat.reduceEqDiff, Nat.zero_add] <;> rfl) ?_
      simp only [Tryz.f16, Option.getD_some]
      repeat' (first
      | with_reducible refine r_seq ?_
      | with_reducible refine r_next ?_
      | with_reducible refine r_block ?_
      | with_reducible refine r_seq_exit ?_
      | with_reducible refine r_seq_ret ?_
      | with_reducible refine r_blk_n ?_
      | with_reducible refine r_blk_ret ?_
      | with_reducible refine r_blk_hit ?_
      | with_reducible refine r_blk_miss rfl ?_
      | with_reducible refine r_skip ?_
      | with_reducible refine r_exit ?_
      | with_reducible refine r_ret ?_
      | with_reducible refine r_rq_exit ?_
      | with_reducible refine r_rq_ret ?_
      | ((with_reducible apply r_regA); (focus (simp only [List.append_eq, List.cons_append, List.nil_append] <;> rfl)); (focus (first | exact Nat.le_of_ble_eq_true rfl | (simp only [List.length_cons, List.length_nil]; omega))))
      | ((with_reducible refine r_reg (List.toList_toArray) ?_ ?_); focus (first | exact Nat.le_of_ble_eq_true rfl | (simp only [List.length_cons, List.length_nil]; omega)))
      | ((with_reducible apply r_end); focus (simp only [Nat.reduceAdd, Nat.zero_add] <;> rfl))
      | ((with_reducible (first | apply r_any | apply r_cond)); focus (simp only [↓reduceIte, clsOf, clsCall, newBlk, allocOp, Fr.ev, evs, evParts, ofV, ofA, ofS, put_mk, upd_mk, keyOf_mk, pureOp, Nat.zero_add, Nat.add_zero, Nat.reduceAdd, Nat.reduceLT, Nat.reduceEqDiff, Nat.reduceSub, callTo_s, heavyCall, target, List.nil_append, List.append_nil, stepOp, stHeavy, stV_mk, stB_mk, stO_mk, T.get_n, T.set_n, T.set_e, Nat.reduceDiv, Nat.reduceMod, Tryz.underlying27, stepAny, wantedA_none, point_hit, nBSx, aBuiltin, aApp, aApp2, outOf, happ] <;> rfl))
      | (with_reducible rw [ifQ_t])
      | (with_reducible rw [ifQ_f])
      | (with_reducible refine ifQ_intro ?_ ?_ <;> intro hb))
      subst hQ
      refine ret_back (by simp only [↓reduceIte, Fr.ev, Nat.reduceEqDiff, Nat.reduceSub, List.toList_toArray, T.get_n, Nat.reduceDiv, Nat.reduceMod, Tryz.results16, resultOf, resultsA, resultA] <;> rfl) ?_
      rfl
  · exact ⟨a, h, F, snd_wf fun h1 => absurd h1 hw, fun h1 => absurd h1 hw, hL⟩


end Go.Proofs.YtneoghpfbgjaiaaGreatDoor

