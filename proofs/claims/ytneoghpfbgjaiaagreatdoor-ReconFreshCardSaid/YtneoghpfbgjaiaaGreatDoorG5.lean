/- A part of the proof of the law ReconFresh. CONDITIONS: those that each theorem names. -/
import Derived.Test.YtneoghpfbgjaiaaGreatDoorG4
import Derived.Test.YtneoghpfbgjaiaaGreatDoorRFElem
namespace Go.Proofs.YtneoghpfbgjaiaaGreatDoor
open Go Go.Ai
set_option maxRecDepth 100000

theorem method_get (v : AV) : methodA Tryz.prog 226 v "Get" = some (328, v) := by kernel_rfl
noncomputable def K3f : FuncId → List AV → St → Outs := fun f args s => match f, args with
  | 328, [.agg [a], .str key] => match lstOf s.h ksI a with
    | some L => some [.val (.agg (getV key L)) s]
    | none => none
  | 112, [.agg [.int .i64 k, .int .i64 n, .str t]] => match lenOk t with
    | true => some [.val (.bool (dec (vOk k n t))) s]
    | false => none
  | 118, [.agg [.int .i64 k, .int .i64 n, .str t]] => match lenOk t with
    | true => some [.val (.bool (dec (vOk k n t))) s]
    | false => none
  | _, _ => none
noncomputable def K3 : CallF := ⟨K3f, fun _ _ _ => none⟩
theorem k3_fn (f : FuncId) (args : List AV) (s : St) : CallF.fn K3 f args s = K3f f args s := rfl
theorem k3_ok : KOK Tryz.prog [] K3 := KOK.table fun f args s outs h => by
  obtain ⟨h0, F⟩ := s
  unfold K3f at h
  split at h
  · split at h
    · rename_i hl; cases h; exact items_get _ _ _ _ (lstOf_p hl) _
    · cases h
  · split at h
    · rename_i hl; cases h; exact valid_ok _ _ _ _ _ (lenOk_le hl)
    · cases h
  · split at h
    · rename_i hl; cases h; exact vvalid_ok _ _ _ _ _ (lenOk_le hl)
    · cases h
  · cases h

theorem clean_get (h : Heap) (F : Nat) (a : AV) (L : List (List AV)) (hL : LstP h ksI a L) (key : List UInt8) : Snd Tryz.prog [] 66 [.agg [.iface 226 (.agg [a])], .str key] ⟨h, F⟩ [.val (.agg (clean (getV key L))) ⟨h, F⟩] := by
  refine snd_val (Kin_V (clean_shape (getV_shape key hL.1))) fun hw => ?_
  obtain ⟨k, n, t, e, htl⟩ := cks_V (getV_shape key hL.1)
  have hlen := lenOk_t htl
  refine sndQ_body (K := K3) k3_ok mixed noNum (m := 0) Tryz.func66 ?_
  generalize hQ : retQ _ _ _ _ _ _ = Q0
  refine body_go (c := Tryz.f66.body.getD .skip) (n := 15) rfl rfl (by simp only [↓reduceIte, T.setList, T.set_e, T.set_n, Nat.reduceDiv, Nat.reduceMod, Nat.reduceEqDiff, Nat.zero_add] <;> rfl) ?_
  simp only [Tryz.f66, Option.getD_some]
  repeat' (first
  | with_reducible refine r_seq ?_
  | with_reducible refine r_next ?_
  | with_reducible refine r_block ?_
  | with_reducible refine r_seq_exit ?_
  | with_reducible refine r_seq_ret ?_
  | with_reducible refine r_blk_n ?_
  | with_reducible refine r_blk_ret ?_
  | with_reducible refine r_blk_hit ?_
  | with_reducible refine r_blk_miss rfl ?_
  | with_reducible refine r_skip ?_
  | with_reducible refine r_exit ?_
  | with_reducible refine r_ret ?_
  | with_reducible refine r_rq_exit ?_
  | with_reducible refine r_rq_ret ?_
  | ((with_reducible apply r_regA); (focus (simp only [List.append_eq, List.cons_append, List.nil_append] <;> rfl)); (focus (first | exact Nat.le_of_ble_eq_true rfl | (simp only [List.length_cons, List.length_nil]; omega))))
  | ((with_reducible refine r_reg (List.toList_toArray) ?_ ?_); focus (first | exact Nat.le_of_ble_eq_true rfl | (simp only [List.length_cons, List.length_nil]; omega)))
  | ((with_reducible apply r_end); focus (simp only [Nat.reduceAdd, Nat.zero_add] <;> rfl))
  | ((with_reducible (first | apply r_any | apply r_cond)); focus (simp only [↓reduceIte, clsOf, clsCall, newBlk, allocOp, Fr.ev, evs, evParts, nVar, AV.cells, rowOf_mk, put_mk, put_none, upd_mk, keyOf_mk, ky_inj, pureOp, readOp, pFA, pFA1, pFA2, rLd, rdAB_row, oneCell_one, someAgg_s, hget_same, hget_hset_ite, List.length_cons, List.length_nil, List.getElem?_cons_zero, List.drop_zero, List.take_succ_cons, List.take_zero, Nat.zero_add, Nat.add_zero, Nat.reduceAdd, Nat.reduceLT, Nat.reduceLeDiff, Nat.reduceEqDiff, Nat.reduceSub, and_self, Nat.add_eq, loadA_w, loadW_a, loadW_s, aSt_w, stOut_s, wrAB_row, ovr, List.set_cons_zero, List.set_cons_succ, allCell, isCell, pUn_not, callTo_s, heavyCall, target, actOp, List.nil_append, List.append_nil, pBuild, pBuild2, fieldsOk, buildParts, stepOp, stHeavy, stV_mk, stB_mk, stO_mk, T.get_n, T.set_n, T.set_e, Nat.reduceDiv, Nat.reduceMod, sz2, sz3, sz9, sz48, ag48, sz115, ag115, zr115, Tryz.underlying115, Tryz.underlying148, stepAny, wantedA_none, K3f, k3_fn, lstOf_same hL, sameT, sameS hw, e, hlen, method_get] <;> rfl))
  | (with_reducible rw [ifQ_t])
  | (with_reducible rw [ifQ_f])
  | (with_reducible refine ifQ_intro ?_ ?_ <;> intro hb))
  · have hv : ¬ vOk k n t := fun hv => by rw [dec_t hv] at hb; cases hb
    subst hQ
    refine ret_back (by simp only [Tryz.results66, resultOf, resultsA, resultA, List.toList_toArray, Fr.ev, T.get_n, Nat.reduceDiv, Nat.reduceMod, Nat.reduceSub, Nat.reduceEqDiff, ↓reduceIte, loadA_w, loadW_a, rdAB_row, hget_same, someAgg_s, List.length_cons, List.length_nil, Nat.reduceLeDiff, Nat.reduceAdd, Nat.zero_add, List.drop_zero, List.take_succ_cons, List.take_zero, ag115, sz115] <;> rfl) ⟨_, out_eq ?_, ?_⟩
    · rw [e, clean_f (v := [.int .i64 k, .int .i64 n, .str t]) hv]
    repeat (first | exact Same.base _ _ _ | exact hS | refine Same.hset hw ?_ (ky_le _ _))
  · have hv : vOk k n t := dec_iff.1 (by simpa using hb)
    subst hQ
    refine ret_back (by simp only [Tryz.results66, resultOf, resultsA, resultA, List.toList_toArray, Fr.ev, T.get_n, Nat.reduceDiv, Nat.reduceMod, Nat.reduceSub, Nat.reduceEqDiff, ↓reduceIte, loadA_w, loadW_a, rdAB_row, hget_same, someAgg_s, List.length_cons, List.length_nil, Nat.reduceLeDiff, Nat.reduceAdd, Nat.zero_add, List.drop_zero, List.take_succ_cons, List.take_zero, ag115, sz115] <;> rfl) ⟨_, out_eq ?_, ?_⟩
    · rw [e, clean_t (v := [.int .i64 k, .int .i64 n, .str t]) hv]
    repeat (first | exact Same.base _ _ _ | exact hS | refine Same.hset hw ?_ (ky_le _ _))


end Go.Proofs.YtneoghpfbgjaiaaGreatDoor

