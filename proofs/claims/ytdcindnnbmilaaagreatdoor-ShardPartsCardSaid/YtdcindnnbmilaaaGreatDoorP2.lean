/- A part of the proof of the law ShardParts. CONDITIONS: those that each theorem names. -/
import Derived.Test.YtdcindnnbmilaaaGreatDoorSPSort
namespace Go.Proofs.YtdcindnnbmilaaaGreatDoor
open Go Go.Ai
set_option maxRecDepth 100000

theorem of18 (h : Heap) (F : Nat) (r : AV) (R : List (List AV)) (hR : LstP h ksT r R) (n : Int) (hn : okN n) (hR5 : R.length ≤ 1000) (hp : 0 < R.length) : Snd Tryz.prog [] 18 [r, .int .i64 n] ⟨h, F⟩ [.val (.slice (ky F 0) 0 0 (Lib.compact (sorted (parts n R))).length none) ⟨hset h (ky F 0) (mkRow (ints (padded (sorted (parts n R)))) 1), F + 1⟩] := by
  have mxl : maxLen = 9223372036854775807 := by decide
  refine snd_block (ints_flat _) fun hw => ?_
  have hs := hR.len
  refine sndQ_body (K := KS) ks_ok mixed noNum (m := R.length + 1) Tryz.func18 ?_
  generalize hQ : retQ _ _ _ _ _ _ = Q0
  refine body_go (c := Tryz.f18.body.getD .skip) (n := 25) rfl rfl (by simp only [↓reduceIte, T.setList, T.set_e, T.set_n, Nat.reduceDiv, Nat.reduceMod, Nat.reduceEqDiff, Nat.zero_add] <;> rfl) ?_
  simp only [Tryz.f18, Option.getD_some]
  repeat' (first
  | with_reducible refine r_seq ?_
  | with_reducible refine r_next ?_
  | with_reducible refine r_block ?_
  | with_reducible refine r_seq_exit ?_
  | with_reducible refine r_seq_ret ?_
  | with_reducible refine r_blk_n ?_
  | with_reducible refine r_blk_ret ?_
  | with_reducible refine r_blk_hit ?_
  | with_reducible refine r_blk_miss rfl ?_
  | with_reducible refine r_skip ?_
  | with_reducible refine r_exit ?_
  | with_reducible refine r_ret ?_
  | with_reducible refine r_rq_exit ?_
  | with_reducible refine r_rq_ret ?_
  | ((with_reducible apply r_regA); (focus (simp only [List.append_eq, List.cons_append, List.nil_append] <;> rfl)); (focus (first | exact Nat.le_of_ble_eq_true rfl | (simp only [List.length_cons, List.length_nil]; omega))))
  | ((with_reducible refine r_reg (List.toList_toArray) ?_ ?_); focus (first | exact Nat.le_of_ble_eq_true rfl | (simp only [List.length_cons, List.length_nil]; omega)))
  | ((with_reducible apply r_end); focus (simp only [Nat.reduceAdd, Nat.zero_add] <;> rfl))
  | ((with_reducible (first | apply r_any | apply r_cond)); focus (simp only [↓reduceIte, clsOf, clsCall, Fr.ev, ofV, ofA, ofS, put_mk, pureOp, readOp, List.getElem?_cons_zero, Nat.reduceLT, Nat.reduceEqDiff, Nat.reduceSub, stepOp, stV_mk, T.get_n, T.set_n, T.set_e, Nat.reduceDiv, Nat.reduceMod, stepAny, wantedA_none, rCall, rLen, rLen1_L Tryz.underlying22 hR] <;> rfl))
  | (with_reducible rw [ifQ_t])
  | (with_reducible rw [ifQ_f])
  | (with_reducible refine ifQ_intro ?_ ?_ <;> intro hb))
  · refine r_loop (I := fun nn fr s1 => ∃ lc tt h1 i l, fr = ⟨F, lc, 25, tt, [], .no⟩ ∧ s1 = ⟨h1, F + 1⟩ ∧ i ≤ R.length ∧ nn = R.length - i ∧ 2 ≤ lc ∧ lc + nn * 1000 ≤ 100000000000000000000000000 ∧ SameH h h1 ∧ tt.get 1 = some (.int .i64 n) ∧ tt.get 5 = some (l) ∧ tt.get 8 = some (r) ∧ tt.get 9 = some (.int .i64 R.length) ∧ tt.get 10 = some (.int .i64 i) ∧ (IL h1 F lc l (parts n (R.take i)))) (n := R.length) ?_ ?_ ?_
    · omega
    · exact ⟨_, _, _, 0, _, rfl, rfl, Nat.zero_le _, (Nat.sub_zero _).symm, by first | omega | exact Nat.le_of_ble_eq_true rfl, by omega, (by repeat (first | exact SameH.refl _ | refine SameH.hset hw ?_ (ky_le _ _))), (by first | rfl | (simp only [Nat.reduceLT, Tget_set, T.get_n, T.get_e, Nat.reduceEqDiff, Nat.reduceDiv, Nat.reduceMod, Nat.reduceSub, ↓reduceIte, if_true, if_false, hget_same, hget_hset_ite, ky_inj, Nat.reduceAdd, Nat.zero_add, rLen1_L Tryz.underlying22 hR] <;> rfl)), (by first | rfl | (simp only [Nat.reduceLT, Tget_set, T.get_n, T.get_e, Nat.reduceEqDiff, Nat.reduceDiv, Nat.reduceMod, Nat.reduceSub, ↓reduceIte, if_true, if_false, hget_same, hget_hset_ite, ky_inj, Nat.reduceAdd, Nat.zero_add, rLen1_L Tryz.underlying22 hR] <;> rfl)), (by first | rfl | (simp only [Nat.reduceLT, Tget_set, T.get_n, T.get_e, Nat.reduceEqDiff, Nat.reduceDiv, Nat.reduceMod, Nat.reduceSub, ↓reduceIte, if_true, if_false, hget_same, hget_hset_ite, ky_inj, Nat.reduceAdd, Nat.zero_add, rLen1_L Tryz.underlying22 hR] <;> rfl)), (by first | rfl | (simp only [Nat.reduceLT, Tget_set, T.get_n, T.get_e, Nat.reduceEqDiff, Nat.reduceDiv, Nat.reduceMod, Nat.reduceSub, ↓reduceIte, if_true, if_false, hget_same, hget_hset_ite, ky_inj, Nat.reduceAdd, Nat.zero_add, rLen1_L Tryz.underlying22 hR] <;> rfl)), (by first | rfl | (simp only [Nat.reduceLT, Tget_set, T.get_n, T.get_e, Nat.reduceEqDiff, Nat.reduceDiv, Nat.reduceMod, Nat.reduceSub, ↓reduceIte, if_true, if_false, hget_same, hget_hset_ite, ky_inj, Nat.reduceAdd, Nat.zero_add, rLen1_L Tryz.underlying22 hR] <;> rfl)), (by exact IL.nil)⟩
    rintro nn fr s1 ⟨lc, tt, h1, i, l, rfl, rfl, hi, rfl, hl0, hlc, hS, ht1, ht5, ht8, ht9, ht10, hI⟩
    by_cases hil : i < R.length
    · obtain ⟨b, o, eo, cap, s0, rfl, hb0, hLi, hs0, r0⟩ := text_at' hw hR hS hil
      repeat' (first
      | with_reducible refine r_seq ?_
      | with_reducible refine r_next ?_
      | with_reducible refine r_block ?_
      | with_reducible refine r_seq_exit ?_
      | with_reducible refine r_seq_ret ?_
      | with_reducible refine r_blk_n ?_
      | with_reducible refine r_blk_ret ?_
      | with_reducible refine r_blk_hit ?_
      | with_reducible refine r_blk_miss rfl ?_
      | with_reducible refine r_skip ?_
      | with_reducible refine r_exit ?_
      | with_reducible refine r_ret ?_
      | with_reducible refine r_rq_exit ?_
      | with_reducible refine r_rq_ret ?_
      | ((with_reducible apply r_regA); (focus (simp only [List.append_eq, List.cons_append, List.nil_append] <;> rfl)); (focus (first | exact Nat.le_of_ble_eq_true rfl | (simp only [List.length_cons, List.length_nil]; omega))))
      | ((with_reducible refine r_reg (List.toList_toArray) ?_ ?_); focus (first | exact Nat.le_of_ble_eq_true rfl | (simp only [List.length_cons, List.length_nil]; omega)))
      | ((with_reducible apply r_end); focus (simp only [Nat.add_assoc, Nat.reduceAdd, Nat.zero_add] <;> rfl))
      | ((with_reducible (first | apply r_any | apply r_cond)); focus (simp only [↓reduceIte, clsOf, clsCall, newBlk, allocOp, Fr.ev, evs, evParts, ofV, ofA, ofS, put_mk, upd_mk, keyOf_mk, pureOp, readOp, rLd, oneCell_one, pBin, binA, intOp_lss, Nat.zero_add, Nat.reduceAdd, Nat.reduceLT, Nat.reduceEqDiff, and_self, loadA_w, loadW_s, callTo_s, heavyCall, target, List.nil_append, List.append_nil, binA, stepOp, stHeavy, stV_mk, stB_mk, stO_mk, sz9, ag9, Tryz.underlying27, stepAny, wantedA_none, KSf, ks_fn, KPf, Tget_set, ht1, ht5, ht8, ht9, ht10, lt_t hil, hs0, hn, nBS27, pIA_s Tryz.underlying22 sz9 hil, r0, intOp_add (inR_succ hil hs), aBuiltin, aApp, aApp2, app27b hI (parts_tl hR5), outOf] <;> rfl))
      | (with_reducible rw [ifQ_t])
      | (with_reducible rw [ifQ_f])
      | (with_reducible refine ifQ_intro ?_ ?_ <;> intro hb))
      · refine r_rq_n (k := R.length - (i + 1)) (by omega) ⟨_, _, _, i + 1, _, rfl, rfl, by omega, rfl, by omega, by omega, (by repeat (first | exact hS | refine SameH.hset hw ?_ (ky_le _ _) | refine same_kill2 hw hI ?_)), (by simp only [Tget_set, Nat.reduceEqDiff, ↓reduceIte, Tget_set, ht1] <;> rfl), (by simp only [Tget_set, Nat.reduceEqDiff, ↓reduceIte, Tget_set] <;> rfl), (by simp only [Tget_set, Nat.reduceEqDiff, ↓reduceIte, Tget_set, ht8] <;> rfl), (by simp only [Tget_set, Nat.reduceEqDiff, ↓reduceIte, Tget_set, ht9] <;> rfl), (by simp only [Tget_set, ↓reduceIte, Tget_set] <;> rfl), (by exact IL.new' (by omega) (parts_step hil hLi))⟩
    · have hend : i = R.length := by omega
      rw [hend, parts_all] at hI
      obtain ⟨hp2, c, hcl, rfl, hz⟩ := hI.resolve_left (fun h0 => by have := congrArg List.length h0.2; rw [parts_len, List.length_nil] at this; omega)
      have hokz : okZ (parts n R) := ⟨hp2, by rw [parts_len]; omega⟩
      have hok2 := okZ_sorted hokz
      repeat' (first
      | with_reducible refine r_seq ?_
      | with_reducible refine r_next ?_
      | with_reducible refine r_block ?_
      | with_reducible refine r_seq_exit ?_
      | with_reducible refine r_seq_ret ?_
      | with_reducible refine r_blk_n ?_
      | with_reducible refine r_blk_ret ?_
      | with_reducible refine r_blk_hit ?_
      | with_reducible refine r_blk_miss rfl ?_
      | with_reducible refine r_skip ?_
      | with_reducible refine r_exit ?_
      | with_reducible refine r_ret ?_
      | with_reducible refine r_rq_exit ?_
      | with_reducible refine r_rq_ret ?_
      | ((with_reducible apply r_regA); (focus (simp only [List.append_eq, List.cons_append, List.nil_append] <;> rfl)); (focus (first | exact Nat.le_of_ble_eq_true rfl | (simp only [List.length_cons, List.length_nil]; omega))))
      | ((with_reducible refine r_reg (List.toList_toArray) ?_ ?_); focus (first | exact Nat.le_of_ble_eq_true rfl | (simp only [List.length_cons, List.length_nil]; omega)))
      | ((with_reducible apply r_end); focus (simp only [Nat.add_assoc, Nat.reduceAdd, Nat.zero_add] <;> rfl))
      | ((with_reducible (first | apply r_any | apply r_cond)); focus (simp only [↓reduceIte, clsOf, clsCall, Fr.ev, evs, put_mk, pureOp, hget_same, pBin, binA, intOp_lss, Nat.reduceLT, Nat.reduceEqDiff, and_self, callTo_s, heavyCall, target, List.nil_append, List.append_nil, binA, stepOp, stHeavy, stV_mk, stO_mk, stepAny, wantedA_none, KSf, ks_fn, Tget_set, ht5, ht9, ht10, lt_f hil, hz, rowInts_mk, hokz, hok2, sorted_len, eq_self] <;> rfl))
      | (with_reducible rw [ifQ_t])
      | (with_reducible rw [ifQ_f])
      | (with_reducible refine ifQ_intro ?_ ?_ <;> intro hb))
      · subst hQ
        refine ret_back (by simp only [Tryz.results18, resultOf, resultsA, resultA, List.toList_toArray, Fr.ev, Tget_set, ↓reduceIte] <;> rfl) ⟨_, _, _, rfl, ?_, ky_le _ _, ?_⟩
        · repeat (first | exact SameH.refl _ | exact hS | refine SameH.hset hw ?_ (ky_le _ _))
        · exact hget_same _ _ _


end Go.Proofs.YtdcindnnbmilaaaGreatDoor

