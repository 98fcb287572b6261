/- A part of the proof of the law ShardParts. CONDITIONS: those that each theorem names. -/
import Derived.Test.YtdcindnnbmilaaaGreatDoorP6
namespace Go.Proofs.YtdcindnnbmilaaaGreatDoor
open Go Go.Ai
set_option maxRecDepth 100000

theorem cells_L {h : Heap} {ks : List CK} {a : AV} {L : List (List AV)} (hl : LstP h ks a L) : a.cells = [a] := by
  rcases hl.2.2 with ⟨rfl, _⟩ | ⟨b, o, eo, cap, rfl, _⟩ <;> rfl
theorem nBS108 {ra rb : AV} (ha : ra.cells = [ra]) (hb : rb.cells = [rb]) (key : Nat) : nBS Tryz.prog key 2 (some (.slice 22)) (some [(0, ra), (1, rb)]) = some (.slice key 0 0 2 (some 2), mkRow [ra, rb] 1) := by
  have h1 : ∀ l, buildArr 1 l [] = some l := fun l => rfl
  have e : buildArr 1 (repl [AV.nils] 2) [(0, ra), (1, rb)] = some [ra, rb] := by
    simp only [buildArr, ha, hb, List.length_cons, List.length_nil, repl, listC_eq]
    rfl
  simp only [nBS, sz22, zr22, nBS2, Nat.mul_one, AV.cells, List.length_cons, List.length_nil, e, nBS3, rowOf_mk]
  rfl
noncomputable def ofZ (n : Int) (L : List (List AV)) : List Int := Lib.compact (sorted (parts n L))
theorem ofZ_eq {n : Int} (hn : okN n) (L : List (List AV)) : ofZ n L = below (parts n L) n.toNat := single (parts_lt hn.1 hn.2 L)
theorem ofZ_pos {n : Int} (hn : okN n) {L : List (List AV)} (hp : 0 < L.length) : 0 < (ofZ n L).length := by
  rw [ofZ_eq hn]
  exact List.length_pos_iff.2 (below_nil (parts_lt hn.1 hn.2 L) fun e => by have := congrArg List.length e; rw [parts_len, List.length_nil] at this; omega)
noncomputable def KCf : FuncId → List AV → St → Outs := fun f args z => match f, args with
  | 18, [r, .int .i64 n] => match lstOf z.h ksT r with
    | some R => open Classical in if okN n ∧ R.length ≤ 1000 then (if 0 < R.length then some [.val (.slice (nk z.fc) 0 0 (ofZ n R).length none) ⟨hset z.h (nk z.fc) (mkRow (ints (padded (sorted (parts n R)))) 1), z.fc + 1⟩] else some [.val .nils z]) else none
    | none => none
  | 19, [.slice sk 0 0 2 cap] => match rdAB (hget z.h sk) 0 2 with
    | some [ra, rb] => match lstOf z.h ksT ra, lstOf z.h ksT rb with
      | some A, some B => open Classical in if A.length + B.length ≤ 1000 then (if 0 < A.length + B.length then some [.val (.slice (nk z.fc) 0 0 (A.length + B.length) none) ⟨hset z.h (nk z.fc) (mkRow (A ++ B).flatten 1), z.fc + 1⟩] else some [.val .nils z]) else none
      | _, _ => none
    | _ => none
  | _, _ => none
noncomputable def KC : CallF := ⟨KCf, fun _ _ _ => none⟩
theorem kc_fn (f : FuncId) (args : List AV) (s : St) : CallF.fn KC f args s = KCf f args s := rfl
theorem kc_ok : KOK Tryz.prog [] KC := KOK.table fun f args s outs h => by
  obtain ⟨h0, F⟩ := s
  unfold KCf at h
  split at h
  · split at h
    · rename_i hl
      have hl := lstOf_p hl
      split at h
      · rename_i hc
        split at h
        · rename_i hp
          cases h
          rw [nk_eq]
          exact of18 _ _ _ _ hl _ hc.1 hc.2 hp
        · rename_i hp
          cases h
          exact of18nil _ _ _ _ hl _ (by omega)
      · cases h
    · cases h
  · split at h
    · rename_i hr
      split at h
      · rename_i hA hB
        have hA := lstOf_p hA
        have hB := lstOf_p hB
        split at h
        · rename_i hc
          split at h
          · rename_i hp
            cases h
            rw [nk_eq]
            exact conc19 _ _ _ _ _ _ _ _ hA hB hr hp hc
          · rename_i hp
            cases h
            exact conc0 _ _ _ _ _ _ _ _ hA hB hr (by omega)
        · cases h
      · cases h
    · cases h
  · cases h
theorem lst_cat {h : Heap} {k : Nat} {A B : List (List AV)} (hA : ∀ l ∈ A, cksOk ksT l) (hB : ∀ l ∈ B, cksOk ksT l) (hm : A.length + B.length ≤ 1000) : lstOf (hset h k (mkRow (A ++ B).flatten 1)) ksT (.slice k 0 0 (A.length + B.length) none) = some (A ++ B) := by
  refine lstOf_eq ?_
  have : A.length + B.length = (A ++ B).length := (List.length_append).symm
  rw [this]
  refine lst_new (fun l hl => (List.mem_append.1 hl).elim (hA l) (hB l)) ?_ (by rw [hget_hset, if_pos rfl]; rfl)
  rw [← this]
  have : maxLen = 9223372036854775807 := by decide
  omega

set_option maxHeartbeats 1000000 in
theorem parts6 (h : Heap) (F : Nat) (ra rb : AV) (A B : List (List AV)) (hA : LstP h ksT ra A) (hB : LstP h ksT rb B) (n : Int) (hn : okN n) (hm : A.length + B.length ≤ 1000) (hp : 0 < A.length + B.length) : Snd Tryz.prog [] 6 [.agg [ra, rb], .int .i64 n] ⟨h, F⟩ [.val (.slice (ky F 0) 0 0 (ofZ n (A ++ B)).length none) ⟨hset h (ky F 0) (mkRow (ints (padded (sorted (parts n (A ++ B))))) 1), F + 1⟩] := by
  refine snd_block (ints_flat _) fun hw => ?_
  have hlt := okN_lt hn
  have hcat := fun (h' : Heap) (k : Nat) => lst_cat (h := h') (k := k) hA.1 hB.1 hm
  have hN0 := hp
  have hN1 := hm
  have hm2 : decide (0 < ((ofZ n (A ++ B)).length : Int)) = true := decide_eq_true (by have := ofZ_pos hn (L := A ++ B) (by rw [List.length_append]; exact hp); omega)
  refine sndQ_body (K := KC) kc_ok mixed noNum (m := 0) Tryz.func6 ?_
  generalize hQ : retQ _ _ _ _ _ _ = Q0
  refine body_go (c := Tryz.f6.body.getD .skip) (n := 21) rfl rfl (by simp only [↓reduceIte, T.setList, T.set_e, T.set_n, Nat.reduceDiv, Nat.reduceMod, Nat.reduceEqDiff, Nat.zero_add] <;> rfl) ?_
  simp only [Tryz.f6, Option.getD_some]
  repeat' (first
  | with_reducible refine r_seq ?_
  | with_reducible refine r_next ?_
  | with_reducible refine r_block ?_
  | with_reducible refine r_seq_exit ?_
  | with_reducible refine r_seq_ret ?_
  | with_reducible refine r_blk_n ?_
  | with_reducible refine r_blk_ret ?_
  | with_reducible refine r_blk_hit ?_
  | with_reducible refine r_blk_miss rfl ?_
  | with_reducible refine r_skip ?_
  | with_reducible refine r_exit ?_
  | with_reducible refine r_ret ?_
  | with_reducible refine r_rq_exit ?_
  | with_reducible refine r_rq_ret ?_
  | ((with_reducible apply r_regA); (focus (simp only [List.append_eq, List.cons_append, List.nil_append] <;> rfl)); (focus (first | exact Nat.le_of_ble_eq_true rfl | (simp only [List.length_cons, List.length_nil]; omega))))
  | ((with_reducible refine r_reg (List.toList_toArray) ?_ ?_); focus (first | exact Nat.le_of_ble_eq_true rfl | (simp only [List.length_cons, List.length_nil]; omega)))
  | ((with_reducible apply r_end); focus (simp only [Nat.reduceAdd, Nat.zero_add] <;> rfl))
  | ((with_reducible (first | apply r_any | apply r_cond)); focus (simp only [↓reduceIte, clsOf, clsCall, newBlk, allocOp, Fr.ev, evs, evParts, ofV, ofA, ofS, nVar, AV.cells, rowOf_mk, put_mk, upd_mk, keyOf_mk, pureOp, readOp, pFA, pFA1, pFA2, rLd, rdAB_row, oneCell_one, hget_same, pBin, binA, intOp_lss, intOp_gtr, List.length_cons, List.length_nil, List.getElem?_cons_zero, List.getElem?_cons_succ, List.drop_zero, List.drop_succ_cons, List.take_succ_cons, List.take_zero, Nat.zero_add, Nat.add_zero, Nat.reduceAdd, Nat.reduceLT, Nat.reduceLeDiff, Nat.reduceEqDiff, Nat.reduceSub, and_self, Nat.add_eq, loadA_w, loadW_s, callTo_s, heavyCall, target, List.nil_append, List.append_nil, binA, stepOp, stHeavy, stV_mk, stB_mk, stO_mk, T.get_n, T.set_n, T.set_e, Nat.reduceDiv, Nat.reduceMod, sz22, ag22, Tryz.underlying24, Tryz.underlying27, Tryz.underlying108, stepAny, wantedA_none, rCall, rLen, rLen1_sl, lenA, KCf, kc_fn, lstOf_same hA, lstOf_same hB, sameT, sameS hw, hcat, hn, hlt, nBS108 (cells_L hA) (cells_L hB), hm, hN0, List.length_append, hm2] <;> rfl))
  | (with_reducible rw [ifQ_t])
  | (with_reducible rw [ifQ_f])
  | (with_reducible refine ifQ_intro ?_ ?_ <;> intro hb))
  subst hQ
  refine ret_back (by simp only [Tryz.results6, resultOf, resultsA, resultA, List.toList_toArray, Fr.ev, T.get_n, Nat.reduceDiv, Nat.reduceMod, Nat.reduceSub, Nat.reduceEqDiff, ↓reduceIte] <;> rfl) ⟨_, _, _, rfl, ?_, ?_, hget_same _ _ _⟩
  · refine fun i ab hi hd => ?_
    have h1 := hw i ab hi hd
    simp only at h1
    have h2 := nk_low F
    have h3 := nk_low (F + 1)
    have h4 : ky F 0 ≤ ky (F + 1) 0 := by unfold ky; omega
    have h5 := ky_le F
    rw [hget_hset, if_neg (by omega), hget_hset, if_neg (by omega), hget_hset, if_neg (by have := ky_le F; exact fun e => absurd (this _) (by rw [← e]; omega)), hget_hset, if_neg (by omega)]
    exact hi
  · have h2 := nk_low (F + 1)
    have h4 : ky F 0 ≤ ky (F + 1) 0 := by unfold ky; omega
    omega


end Go.Proofs.YtdcindnnbmilaaaGreatDoor

