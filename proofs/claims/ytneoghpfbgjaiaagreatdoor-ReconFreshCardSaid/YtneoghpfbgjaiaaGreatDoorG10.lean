/- A part of the proof of the law ReconFresh. CONDITIONS: those that each theorem names. -/
import Derived.Test.YtneoghpfbgjaiaaGreatDoorG9
namespace Go.Proofs.YtneoghpfbgjaiaaGreatDoor
open Go Go.Ai
set_option maxRecDepth 100000

noncomputable def K5f : FuncId → List AV → St → Outs := fun f args s => match f, args with
  | 79, [a, a2] => match lstOf s.h ksT a, lstOf s.h ksT a2 with
    | some L, some M => some [.val (.bool (dec (L = M))) s]
    | _, _ => none
  | 120, [a, a2] => match lstOf s.h ksT a, lstOf s.h ksT a2 with
    | some L, some M => some [.val (.bool (dec (L = M))) s]
    | _, _ => none
  | 80, [a, a2] => match lstOf s.h ksI a, lstOf s.h ksI a2 with
    | some L, some M => some [.val (.bool (dec (L = M))) s]
    | _, _ => none
  | 122, [a, a2] => match lstOf s.h ksV a, lstOf s.h ksV a2 with
    | some L, some M => some [.val (.bool (dec (L = M))) s]
    | _, _ => none
  | _, _ => none
noncomputable def K5 : CallF := ⟨K5f, fun _ _ _ => none⟩
theorem k5_fn (f : FuncId) (args : List AV) (s : St) : CallF.fn K5 f args s = K5f f args s := rfl
theorem k5_ok : KOK Tryz.prog [] K5 := KOK.table fun f args s outs h => by
  obtain ⟨h0, F⟩ := s
  unfold K5f at h
  split at h
  · split at h
    · rename_i h1 h2; cases h; exact texts79 _ _ _ _ _ _ (lstOf_p h1) (lstOf_p h2)
    · cases h
  · split at h
    · rename_i h1 h2; cases h; exact texts120 _ _ _ _ _ _ (lstOf_p h1) (lstOf_p h2)
    · cases h
  · split at h
    · rename_i h1 h2; cases h; exact items80 _ _ _ _ _ _ (lstOf_p h1) (lstOf_p h2)
    · cases h
  · split at h
    · rename_i h1 h2; cases h; exact values122 _ _ _ _ _ _ (lstOf_p h1) (lstOf_p h2)
    · cases h
  · cases h

def reqP (x1 y1 : Int) (n1 : List UInt8) (L : List (List AV)) (x2 y2 : Int) (n2 : List UInt8) (M : List (List AV)) : Prop := x1 = x2 ∧ y1 = y2 ∧ n1 = n2 ∧ L = M
theorem req78 (h : Heap) (F : Nat) (x1 x2 y1 y2 : Int) (n1 n2 : List UInt8) (a a2 : AV) (L M : List (List AV)) (hL : LstP h ksV a L) (hM : LstP h ksV a2 M) : Snd Tryz.prog [] 78 [.agg [.int .i64 x1, .int .u64 y1, .str n1, a], .agg [.int .i64 x2, .int .u64 y2, .str n2, a2]] ⟨h, F⟩ [.val (.bool (dec (reqP x1 y1 n1 L x2 y2 n2 M))) ⟨h, F⟩] := by
  refine snd_val (by simp [Kin]) fun hw => ?_
  obtain ⟨b1, e1⟩ : ∃ b, (x1 == x2) = b := ⟨_, rfl⟩
  obtain ⟨b2, e2⟩ : ∃ b, (y1 == y2) = b := ⟨_, rfl⟩
  obtain ⟨b3, e3⟩ : ∃ b, (n1 == n2) = b := ⟨_, rfl⟩
  have g1 : (x1 != x2) = !b1 := by rw [← e1]; rfl
  have g2 : (y1 != y2) = !b2 := by rw [← e2]; rfl
  have key : (cond b1 (cond b2 (cond b3 (dec (L = M)) false) false) false) = dec (reqP x1 y1 n1 L x2 y2 n2 M) := by
    refine bool_dec ?_
    subst e1 e2 e3
    by_cases h1 : x1 = x2 <;> by_cases h2 : y1 = y2 <;> by_cases h3 : n1 = n2 <;> simp [reqP, h1, h2, h3, dec_iff]
  rw [← key]
  clear key
  rcases b1 with _ | _
  rotate_left
  rcases b2 with _ | _
  rotate_left
  rcases b3 with _ | _
  all_goals
    refine sndQ_body (K := K5) k5_ok mixed noNum (m := 0) Tryz.func78 ?_
    generalize hQ : retQ _ _ _ _ _ _ = Q0
    refine body_go (c := Tryz.f78.body.getD .skip) (n := 31) rfl rfl (by simp only [↓reduceIte, T.setList, T.set_e, T.set_n, Nat.reduceDiv, Nat.reduceMod, Nat.reduceEqDiff, Nat.zero_add] <;> rfl) ?_
    simp only [Tryz.f78, Option.getD_some]
    repeat' (first
    | with_reducible refine r_seq ?_
    | with_reducible refine r_next ?_
    | with_reducible refine r_block ?_
    | with_reducible refine r_seq_exit ?_
    | with_reducible refine r_seq_ret ?_
    | with_reducible refine r_blk_n ?_
    | with_reducible refine r_blk_ret ?_
    | with_reducible refine r_blk_hit ?_
    | with_reducible refine r_blk_miss rfl ?_
    | with_reducible refine r_skip ?_
    | with_reducible refine r_exit ?_
    | with_reducible refine r_ret ?_
    | with_reducible refine r_rq_exit ?_
    | with_reducible refine r_rq_ret ?_
    | ((with_reducible apply r_regA); (focus (simp only [List.append_eq, List.cons_append, List.nil_append] <;> rfl)); (focus (first | exact Nat.le_of_ble_eq_true rfl | (simp only [List.length_cons, List.length_nil]; omega))))
    | ((with_reducible refine r_reg (List.toList_toArray) ?_ ?_); focus (first | exact Nat.le_of_ble_eq_true rfl | (simp only [List.length_cons, List.length_nil]; omega)))
    | ((with_reducible apply r_end); focus (simp only [Nat.reduceAdd, Nat.zero_add] <;> rfl))
    | ((with_reducible (first | apply r_any | apply r_cond)); focus (simp only [↓reduceIte, wantedA_eq, gBool_t, clsOf, clsCall, newBlk, allocOp, Fr.ev, evs, ofV, ofA, ofS, nVar, AV.cells, rowOf_mk, put_mk, upd_mk, keyOf_mk, ky_inj, pureOp, readOp, pFA, pFA1, pFA2, rLd, rdAB_row, oneCell_one, hget_same, hget_hset_ite, pBin, binA, intOp_eql, pPick, List.length_cons, List.length_nil, List.getElem?_cons_zero, List.getElem?_cons_succ, List.drop_zero, List.drop_succ_cons, List.take_succ_cons, List.take_zero, Nat.zero_add, Nat.add_zero, Nat.reduceAdd, Nat.reduceLT, Nat.reduceLeDiff, Nat.reduceEqDiff, Nat.reduceSub, Nat.add_eq, loadA_w, loadW_s, callTo_s, heavyCall, target, List.nil_append, List.append_nil, binA, stepOp, stHeavy, stV_mk, stB_mk, stO_mk, T.get_n, T.set_n, T.set_e, Nat.reduceDiv, Nat.reduceMod, sz3, ag3, sz9, ag9, sz23, ag23, sz24, ag24, Tryz.underlying26, stepAny, wantedA_none, strOp, K5f, k5_fn, lstOf_same hL, lstOf_same hM, sameT, sameS hw, e1, e2, e3] <;> rfl))
    | (with_reducible rw [ifQ_t])
    | (with_reducible rw [ifQ_f])
    | (with_reducible refine ifQ_intro ?_ ?_ <;> intro hb))
    subst hQ
    refine ret_back (by simp only [Tryz.results78, resultOf, resultsA, resultA, List.toList_toArray, Fr.ev, T.get_n, Nat.reduceDiv, Nat.reduceMod, Nat.reduceSub, Nat.reduceEqDiff, ↓reduceIte] <;> rfl) ⟨_, rfl, ?_⟩
    repeat (first | exact Same.base _ _ _ | exact Same.refl _ | refine Same.hset hw ?_ (ky_le _ _))


end Go.Proofs.YtneoghpfbgjaiaaGreatDoor

