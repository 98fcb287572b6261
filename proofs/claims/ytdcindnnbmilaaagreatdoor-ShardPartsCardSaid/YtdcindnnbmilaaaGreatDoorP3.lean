/- A part of the proof of the law ShardParts. CONDITIONS: those that each theorem names. -/
import Derived.Test.YtdcindnnbmilaaaGreatDoorP2
namespace Go.Proofs.YtdcindnnbmilaaaGreatDoor
open Go Go.Ai
set_option maxRecDepth 100000

theorem of18nil (h : Heap) (F : Nat) (r : AV) (R : List (List AV)) (hR : LstP h ksT r R) (n : Int) (h0 : R.length = 0) : Snd Tryz.prog [] 18 [r, .int .i64 n] ⟨h, F⟩ [.val .nils ⟨h, F⟩] := by
  refine snd_val (by simp [Kin]) fun hw => ?_
  have hz0 : decide ((0 : Int) < (R.length : Int)) = false := decide_eq_false (by omega)
  refine sndQ_body (K := KS) ks_ok mixed noNum (m := 1) Tryz.func18 ?_
  generalize hQ : retQ _ _ _ _ _ _ = Q0
  refine body_go (c := Tryz.f18.body.getD .skip) (n := 25) rfl rfl (by simp only [↓reduceIte, T.setList, T.set_e, T.set_n, Nat.reduceDiv, Nat.reduceMod, Nat.reduceEqDiff, Nat.zero_add] <;> rfl) ?_
  simp only [Tryz.f18, Option.getD_some]
  repeat' (first
  | with_reducible refine r_seq ?_
  | with_reducible refine r_next ?_
  | with_reducible refine r_block ?_
  | with_reducible refine r_seq_exit ?_
  | with_reducible refine r_seq_ret ?_
  | with_reducible refine r_blk_n ?_
  | with_reducible refine r_blk_ret ?_
  | with_reducible refine r_blk_hit ?_
  | with_reducible refine r_blk_miss rfl ?_
  | with_reducible refine r_skip ?_
  | with_reducible refine r_exit ?_
  | with_reducible refine r_ret ?_
  | with_reducible refine r_rq_exit ?_
  | with_reducible refine r_rq_ret ?_
  | ((with_reducible apply r_regA); (focus (simp only [List.append_eq, List.cons_append, List.nil_append] <;> rfl)); (focus (first | exact Nat.le_of_ble_eq_true rfl | (simp only [List.length_cons, List.length_nil]; omega))))
  | ((with_reducible refine r_reg (List.toList_toArray) ?_ ?_); focus (first | exact Nat.le_of_ble_eq_true rfl | (simp only [List.length_cons, List.length_nil]; omega)))
  | ((with_reducible apply r_end); focus (simp only [Nat.reduceAdd, Nat.zero_add] <;> rfl))
  | ((with_reducible (first | apply r_any | apply r_cond)); focus (simp only [↓reduceIte, clsOf, clsCall, Fr.ev, evs, ofV, ofA, ofS, put_mk, pureOp, readOp, pBin, binA, intOp_lss, List.getElem?_cons_zero, Nat.reduceLT, Nat.reduceEqDiff, Nat.reduceSub, callTo_s, heavyCall, target, List.nil_append, List.append_nil, binA, stepOp, stHeavy, stV_mk, stO_mk, T.get_n, T.set_n, T.set_e, Nat.reduceDiv, Nat.reduceMod, stepAny, wantedA_none, rCall, rLen, KSf, ks_fn, hz0, rLen1_L Tryz.underlying22 hR] <;> rfl))
  | (with_reducible rw [ifQ_t])
  | (with_reducible rw [ifQ_f])
  | with_reducible refine r_loopU ?_
  | with_reducible refine r_un ?_
  | with_reducible refine r_uq_n ?_
  | with_reducible refine r_uq_exit ?_
  | with_reducible refine r_uq_ret ?_
  | (with_reducible refine ifQ_intro ?_ ?_ <;> intro hb))
  subst hQ
  refine ret_back (by simp only [Tryz.results18, resultOf, resultsA, resultA, List.toList_toArray, Fr.ev, T.get_n, Nat.reduceDiv, Nat.reduceMod, Nat.reduceSub, Nat.reduceEqDiff, ↓reduceIte] <;> rfl) ⟨_, rfl, ?_⟩
  repeat (first | exact Same.base _ _ _ | exact Same.refl _ | refine Same.hset hw ?_ (ky_le _ _))
theorem below_hit {zs : List Int} {i : Nat} (h : (i : Int) ∈ zs) : below zs (i + 1) = below zs i ++ [(i : Int)] := by rw [below_succ, if_pos h]
theorem below_miss {zs : List Int} {i : Nat} (h : ¬ (i : Int) ∈ zs) : below zs (i + 1) = below zs i := by rw [below_succ, if_neg h, List.append_nil]
theorem parts_mem {n : Int} {R : List (List AV)} {k : Nat} (hk : k < R.length) {s : List UInt8} (e : R[k] = [.str s]) {z : Int} (hz : partI s n = z) : z ∈ parts n R := by
  subst hz
  exact List.mem_map.2 ⟨R[k], List.getElem_mem hk, by rw [e]; rfl⟩
theorem parts_none {n : Int} {R : List (List AV)} {z : Int} (h : ∀ j (hj : j < R.length), partOf n R[j] ≠ z) : ¬ z ∈ parts n R := by
  intro hm
  obtain ⟨l, hl, e⟩ := List.mem_map.1 hm
  obtain ⟨j, hj, rfl⟩ := List.getElem_of_mem hl
  exact h j hj e

set_option maxHeartbeats 1000000 in
theorem parts20 (h : Heap) (F : Nat) (r : AV) (R : List (List AV)) (hR : LstP h ksT r R) (N : Nat) (hn : okN N) (hR5 : R.length ≤ 1000) (hN5 : N ≤ 1000) {Q : Out → Prop} (hQf : ∀ h1 lc l, Wf ⟨h, F⟩ → SameH h h1 → IL h1 F lc l (below (parts N R) N) → Q (.val l ⟨h1, F + 1⟩)) :
    Wf ⟨h, F⟩ → SndQ Tryz.prog [] 20 [r, .int .i64 N] ⟨h, F⟩ Q := by
  have mxl : maxLen = 9223372036854775807 := by decide
  intro hw
  have hsR := hR.len
  have hsN : N ≤ maxLen := by omega
  refine sndQ_body (K := KP) kp_ok mixed noNum (m := 1001) Tryz.func20 ?_
  generalize hQ : retQ _ _ _ _ _ _ = Q0
  refine body_go (c := Tryz.f20.body.getD .skip) (n := 32) rfl rfl (by simp only [↓reduceIte, T.setList, T.set_e, T.set_n, Nat.reduceDiv, Nat.reduceMod, Nat.reduceEqDiff, Nat.zero_add] <;> rfl) ?_
  simp only [Tryz.f20, Option.getD_some]
  repeat' (first
  | with_reducible refine r_seq ?_
  | with_reducible refine r_next ?_
  | with_reducible refine r_block ?_
  | with_reducible refine r_seq_exit ?_
  | with_reducible refine r_seq_ret ?_
  | with_reducible refine r_blk_n ?_
  | with_reducible refine r_blk_ret ?_
  | with_reducible refine r_blk_hit ?_
  | with_reducible refine r_blk_miss rfl ?_
  | with_reducible refine r_skip ?_
  | with_reducible refine r_exit ?_
  | with_reducible refine r_ret ?_
  | with_reducible refine r_rq_exit ?_
  | with_reducible refine r_rq_ret ?_
  | ((with_reducible apply r_regA); (focus (simp only [List.append_eq, List.cons_append, List.nil_append] <;> rfl)); (focus (first | exact Nat.le_of_ble_eq_true rfl | (simp only [List.length_cons, List.length_nil]; omega))))
  | ((with_reducible refine r_reg (List.toList_toArray) ?_ ?_); focus (first | exact Nat.le_of_ble_eq_true rfl | (simp only [List.length_cons, List.length_nil]; omega)))
  | ((with_reducible apply r_end); focus (simp only [Nat.reduceAdd, Nat.zero_add] <;> rfl))
  | ((with_reducible (first | apply r_any | apply r_cond)); focus (simp only [↓reduceIte, clsOf, Fr.ev, ofV, ofA, ofS, put_mk, pureOp, Nat.reduceLT, Nat.reduceEqDiff, Nat.reduceSub, stepOp, stV_mk, T.set_n, T.set_e, Nat.reduceDiv, Nat.reduceMod, stepAny, wantedA_none] <;> rfl))
  | (with_reducible rw [ifQ_t])
  | (with_reducible rw [ifQ_f])
  | (with_reducible refine ifQ_intro ?_ ?_ <;> intro hb))
  refine r_loop (I := fun nn fr s1 => ∃ lc tt h1 i l, fr = ⟨F, lc, 32, tt, [], .no⟩ ∧ s1 = ⟨h1, F + 1⟩ ∧ i ≤ N ∧ nn = N - i ∧ lc + nn * 1000000 ≤ 100000000000000000000000000 ∧ SameH h h1 ∧ tt.get 0 = some r ∧ tt.get 1 = some (.int .i64 N) ∧ tt.get 5 = some l ∧ tt.get 6 = some (.int .i64 i) ∧ IL h1 F lc l (below (parts N R) i)) (n := N) ?_ ?_ ?_
  · omega
  · exact ⟨_, _, _, 0, _, rfl, rfl, Nat.zero_le _, (Nat.sub_zero _).symm, by omega, SameH.refl _, (by first | rfl | (simp only [Nat.reduceLT, Tget_set, T.get_n, T.get_e, Nat.reduceEqDiff, Nat.reduceDiv, Nat.reduceMod, Nat.reduceSub, ↓reduceIte, if_true, if_false, hget_same, hget_hset_ite, ky_inj, Nat.reduceAdd, Nat.zero_add] <;> rfl)), (by first | rfl | (simp only [Nat.reduceLT, Tget_set, T.get_n, T.get_e, Nat.reduceEqDiff, Nat.reduceDiv, Nat.reduceMod, Nat.reduceSub, ↓reduceIte, if_true, if_false, hget_same, hget_hset_ite, ky_inj, Nat.reduceAdd, Nat.zero_add] <;> rfl)), (by first | rfl | (simp only [Nat.reduceLT, Tget_set, T.get_n, T.get_e, Nat.reduceEqDiff, Nat.reduceDiv, Nat.reduceMod, Nat.reduceSub, ↓reduceIte, if_true, if_false, hget_same, hget_hset_ite, ky_inj, Nat.reduceAdd, Nat.zero_add] <;> rfl)), (by first | rfl | (simp only [Nat.reduceLT, Tget_set, T.get_n, T.get_e, Nat.reduceEqDiff, Nat.reduceDiv, Nat.reduceMod, Nat.reduceSub, ↓reduceIte, if_true, if_false, hget_same, hget_hset_ite, ky_inj, Nat.reduceAdd, Nat.zero_add] <;> rfl)), (by exact IL.nil)⟩
  rintro nn fr s1 ⟨lc, tt, h1, i, l, rfl, rfl, hi, rfl, hlc, hS, ht0, ht1, ht5, ht6, hI⟩
  by_cases hil : i < N
  · repeat' (first
    | with_reducible refine r_seq ?_
    | with_reducible refine r_next ?_
    | with_reducible refine r_block ?_
    | with_reducible refine r_seq_exit ?_
    | with_reducible refine r_seq_ret ?_
    | with_reducible refine r_blk_n ?_
    | with_reducible refine r_blk_ret ?_
    | with_reducible refine r_blk_hit ?_
    | with_reducible refine r_blk_miss rfl ?_
    | with_reducible refine r_skip ?_
    | with_reducible refine r_exit ?_
    | with_reducible refine r_ret ?_
    | with_reducible refine r_rq_exit ?_
    | with_reducible refine r_rq_ret ?_
    | ((with_reducible apply r_regA); (focus (simp only [List.append_eq, List.cons_append, List.nil_append] <;> rfl)); (focus (first | exact Nat.le_of_ble_eq_true rfl | (simp only [List.length_cons, List.length_nil]; omega))))
    | ((with_reducible refine r_reg (List.toList_toArray) ?_ ?_); focus (first | exact Nat.le_of_ble_eq_true rfl | (simp only [List.length_cons, List.length_nil]; omega)))
    | ((with_reducible apply r_end); focus (simp only [Nat.add_assoc, Nat.reduceAdd, Nat.zero_add] <;> rfl))
    | ((with_reducible (first | apply r_any | apply r_cond)); focus (simp only [↓reduceIte, clsOf, Fr.ev, ofV, ofA, ofS, put_mk, pureOp, pBin, binA, intOp_lss, Nat.reduceLT, Nat.reduceEqDiff, binA, stepOp, stV_mk, stepAny, wantedA_none, Tget_set, ht1, ht6, lt_t hil] <;> rfl))
    | (with_reducible rw [ifQ_t])
    | (with_reducible rw [ifQ_f])
    | (with_reducible refine ifQ_intro ?_ ?_ <;> intro hb))
    refine r_loop (I := fun nn fr s1 => ∃ lc2 tt2 k, fr = ⟨F, lc2, 32, tt2, [], .no⟩ ∧ s1 = ⟨h1, F + 1⟩ ∧ k ≤ R.length ∧ nn = R.length - k ∧ lc2 + nn * 100 ≤ lc + 200000 ∧ lc ≤ lc2 ∧ tt2.get 0 = some r ∧ tt2.get 1 = some (.int .i64 N) ∧ tt2.get 5 = some l ∧ tt2.get 6 = some (.int .i64 i) ∧ tt2.get 7 = some (.int .i64 k) ∧ (∀ j (hj : j < k) (hjl : j < R.length), partOf N R[j] ≠ i)) (n := R.length) ?_ ?_ ?_
    · omega
    · exact ⟨_, _, 0, rfl, rfl, Nat.zero_le _, (Nat.sub_zero _).symm, by omega, by omega, (by simp only [Tget_set, Nat.reduceEqDiff, ↓reduceIte, Tget_set, ht0] <;> rfl), (by simp only [Tget_set, Nat.reduceEqDiff, ↓reduceIte, Tget_set, ht1] <;> rfl), (by simp only [Tget_set, Nat.reduceEqDiff, ↓reduceIte, Tget_set, ht5] <;> rfl), (by simp only [Tget_set, Nat.reduceEqDiff, ↓reduceIte, Tget_set, ht6] <;> rfl), (by simp only [Tget_set, ↓reduceIte, Tget_set] <;> rfl), fun j hj => absurd hj (Nat.not_lt_zero _)⟩
    rintro nn fr s1 ⟨lc2, tt2, k, rfl, rfl, hk, rfl, hlc2, hle2, u0, u1, u5, u6, u7, hJ⟩
    have hI2 := hI.up hle2
    have hbl : (below (parts N R) i).length ≤ 1000 := Nat.le_trans (below_len _ _) (by omega)
    by_cases hkl : k < R.length
    · obtain ⟨b, o, eo, cap, s0, rfl, hb0, hLi, hs0, r0⟩ := text_at' hw hR hS hkl
      repeat' (first
      | with_reducible refine r_seq ?_
      | with_reducible refine r_next ?_
      | with_reducible refine r_block ?_
      | with_reducible refine r_seq_exit ?_
      | with_reducible refine r_seq_ret ?_
      | with_reducible refine r_blk_n ?_
      | with_reducible refine r_blk_ret ?_
      | with_reducible refine r_blk_hit ?_
      | with_reducible refine r_blk_miss rfl ?_
      | with_reducible refine r_skip ?_
      | with_reducible refine r_exit ?_
      | with_reducible refine r_ret ?_
      | with_reducible refine r_rq_exit ?_
      | with_reducible refine r_rq_ret ?_
      | ((with_reducible apply r_regA); (focus (simp only [List.append_eq, List.cons_append, List.nil_append] <;> rfl)); (focus (first | exact Nat.le_of_ble_eq_true rfl | (simp only [List.length_cons, List.length_nil]; omega))))
      | ((with_reducible refine r_reg (List.toList_toArray) ?_ ?_); focus (first | exact Nat.le_of_ble_eq_true rfl | (simp only [List.length_cons, List.length_nil]; omega)))
      | ((with_reducible apply r_end); focus (simp only [Nat.add_assoc, Nat.reduceAdd, Nat.zero_add] <;> rfl))
      | ((with_reducible (first | apply r_any | apply r_cond)); focus (simp only [↓reduceIte, clsOf, clsCall, newBlk, allocOp, Fr.ev, evs, evParts, ofV, ofA, ofS, put_mk, upd_mk, keyOf_mk, pureOp, readOp, rLd, oneCell_one, pBin, binA, intOp_eql, intOp_lss, List.getElem?_cons_zero, Nat.zero_add, Nat.reduceAdd, Nat.reduceLT, Nat.reduceEqDiff, and_self, loadA_w, loadW_s, callTo_s, heavyCall, target, List.nil_append, List.append_nil, binA, stepOp, stHeavy, stV_mk, stB_mk, stO_mk, sz9, ag9, Tryz.underlying27, stepAny, wantedA_none, rCall, rLen, Tget_set, KPf, kp_fn, u0, u1, u5, u6, u7, hs0, hn, nBS27, pIA_s Tryz.underlying22 sz9 hkl, r0, lt_t hkl, intOp_add (inR_succ hkl hsR), intOp_add (inR_succ hil hsN), aBuiltin, aApp, aApp2, app27b hI2 hbl, outOf, rLen1_L Tryz.underlying22 hR] <;> rfl))
      | (with_reducible rw [ifQ_t])
      | (with_reducible rw [ifQ_f])
      | (with_reducible refine ifQ_intro ?_ ?_ <;> intro hb))
      · have hx : partI s0 N = i := by simpa using hb
        refine r_rq_n (k := N - (i + 1)) (by omega) ⟨_, _, _, i + 1, _, rfl, rfl, by omega, rfl, by omega, (by repeat (first | exact hS | refine SameH.hset hw ?_ (ky_le _ _) | refine same_kill2 hw hI ?_)), (by simp only [Tget_set, Nat.reduceEqDiff, ↓reduceIte, Tget_set, u0] <;> rfl), (by simp only [Tget_set, Nat.reduceEqDiff, ↓reduceIte, Tget_set, u1] <;> rfl), (by simp only [Tget_set, Nat.reduceEqDiff, ↓reduceIte, Tget_set] <;> rfl), (by simp only [Tget_set, ↓reduceIte, Tget_set] <;> rfl), (by exact IL.new' (by omega) (below_hit (parts_mem hkl hLi hx)))⟩
      · have hx : ¬ partI s0 N = i := by simpa using hb
        refine r_rq_n (k := R.length - (k + 1)) (by omega) ⟨_, _, k + 1, rfl, rfl, by omega, rfl, by omega, by omega, (by simp only [Tget_set, Nat.reduceEqDiff, ↓reduceIte, Tget_set, u0] <;> rfl), (by simp only [Tget_set, Nat.reduceEqDiff, ↓reduceIte, Tget_set, u1] <;> rfl), (by simp only [Tget_set, Nat.reduceEqDiff, ↓reduceIte, Tget_set, u5] <;> rfl), (by simp only [Tget_set, Nat.reduceEqDiff, ↓reduceIte, Tget_set, u6] <;> rfl), (by simp only [Tget_set, ↓reduceIte, Tget_set] <;> rfl), fun j hj hjl => ?_⟩
        rcases Nat.lt_or_ge j k with hjk | hjk
        · exact hJ j hjk hjl
        · obtain rfl : j = k := by omega
          rw [hLi]; exact hx
    · have hend : k = R.length := by omega
      repeat' (first
      | with_reducible refine r_seq ?_
      | with_reducible refine r_next ?_
      | with_reducible refine r_block ?_
      | with_reducible refine r_seq_exit ?_
      | with_reducible refine r_seq_ret ?_
      | with_reducible refine r_blk_n ?_
      | with_reducible refine r_blk_ret ?_
      | with_reducible refine r_blk_hit ?_
      | with_reducible refine r_blk_miss rfl ?_
      | with_reducible refine r_skip ?_
      | with_reducible refine r_exit ?_
      | with_reducible refine r_ret ?_
      | with_reducible refine r_rq_exit ?_
      | with_reducible refine r_rq_ret ?_
      | ((with_reducible apply r_regA); (focus (simp only [List.append_eq, List.cons_append, List.nil_append] <;> rfl)); (focus (first | exact Nat.le_of_ble_eq_true rfl | (simp only [List.length_cons, List.length_nil]; omega))))
      | ((with_reducible refine r_reg (List.toList_toArray) ?_ ?_); focus (first | exact Nat.le_of_ble_eq_true rfl | (simp only [List.length_cons, List.length_nil]; omega)))
      | ((with_reducible apply r_end); focus (simp only [Nat.add_assoc, Nat.reduceAdd, Nat.zero_add] <;> rfl))
      | ((with_reducible (first | apply r_any | apply r_cond)); focus (simp only [↓reduceIte, clsOf, clsCall, Fr.ev, ofV, ofA, ofS, put_mk, pureOp, readOp, pBin, binA, intOp_lss, List.getElem?_cons_zero, Nat.reduceLT, Nat.reduceEqDiff, binA, stepOp, stV_mk, stepAny, wantedA_none, rCall, rLen, Tget_set, u0, u6, u7, lt_f hkl, intOp_add (inR_succ hil hsN), rLen1_L Tryz.underlying22 hR] <;> rfl))
      | (with_reducible rw [ifQ_t])
      | (with_reducible rw [ifQ_f])
      | (with_reducible refine ifQ_intro ?_ ?_ <;> intro hb))
      exact r_rq_n (k := N - (i + 1)) (by omega) ⟨_, _, _, i + 1, _, rfl, rfl, by omega, rfl, by omega, hS, (by simp only [Tget_set, Nat.reduceEqDiff, ↓reduceIte, Tget_set, u0] <;> rfl), (by simp only [Tget_set, Nat.reduceEqDiff, ↓reduceIte, Tget_set, u1] <;> rfl), (by simp only [Tget_set, Nat.reduceEqDiff, ↓reduceIte, Tget_set, u5] <;> rfl), (by simp only [Tget_set, ↓reduceIte, Tget_set] <;> rfl), (by rw [below_miss (parts_none fun j hj => hJ j (by omega) hj)]; exact hI.up (by omega))⟩
  · have hend : i = N := by omega
    rw [hend] at hI
    repeat' (first
    | with_reducible refine r_seq ?_
    | with_reducible refine r_next ?_
    | with_reducible refine r_block ?_
    | with_reducible refine r_seq_exit ?_
    | with_reducible refine r_seq_ret ?_
    | with_reducible refine r_blk_n ?_
    | with_reducible refine r_blk_ret ?_
    | with_reducible refine r_blk_hit ?_
    | with_reducible refine r_blk_miss rfl ?_
    | with_reducible refine r_skip ?_
    | with_reducible refine r_exit ?_
    | with_reducible refine r_ret ?_
    | with_reducible refine r_rq_exit ?_
    | with_reducible refine r_rq_ret ?_
    | ((with_reducible apply r_regA); (focus (simp only [List.append_eq, List.cons_append, List.nil_append] <;> rfl)); (focus (first | exact Nat.le_of_ble_eq_true rfl | (simp only [List.length_cons, List.length_nil]; omega))))
    | ((with_reducible refine r_reg (List.toList_toArray) ?_ ?_); focus (first | exact Nat.le_of_ble_eq_true rfl | (simp only [List.length_cons, List.length_nil]; omega)))
    | ((with_reducible apply r_end); focus (simp only [Nat.add_assoc, Nat.reduceAdd, Nat.zero_add] <;> rfl))
    | ((with_reducible (first | apply r_any | apply r_cond)); focus (simp only [↓reduceIte, clsOf, Fr.ev, put_mk, pureOp, pBin, binA, intOp_lss, Nat.reduceLT, Nat.reduceEqDiff, binA, stepOp, stV_mk, stepAny, wantedA_none, Tget_set, ht1, ht5, ht6, lt_f hil] <;> rfl))
    | (with_reducible rw [ifQ_t])
    | (with_reducible rw [ifQ_f])
    | (with_reducible refine ifQ_intro ?_ ?_ <;> intro hb))
    subst hQ
    exact ret_back (by simp only [Tryz.results20, resultOf, resultsA, resultA, List.toList_toArray, Fr.ev, Tget_set, ↓reduceIte] <;> rfl) (hQf _ _ _ hw hS hI)


end Go.Proofs.YtdcindnnbmilaaaGreatDoor

