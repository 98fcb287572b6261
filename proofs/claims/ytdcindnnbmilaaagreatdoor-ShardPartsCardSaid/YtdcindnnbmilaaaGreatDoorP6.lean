/- A part of the proof of the law ShardParts. CONDITIONS: those that each theorem names. -/
import Derived.Test.YtdcindnnbmilaaaGreatDoorP5
namespace Go.Proofs.YtdcindnnbmilaaaGreatDoor
open Go Go.Ai
set_option maxRecDepth 100000

abbrev ksN : List CK := [.i .i64]
def iL (zs : List Int) : List (List AV) := zs.map fun z => [AV.int .i64 z]
theorem iL_len (zs : List Int) : (iL zs).length = zs.length := by simp [iL]
theorem iL_flat (zs : List Int) : (iL zs).flatten = ints zs := by
  induction zs with
  | nil => rfl
  | cons z zs ih => show [AV.int .i64 z] ++ (iL zs).flatten = _; rw [ih]; rfl
theorem num_at {h h1 : Heap} {F i : Nat} {a : AV} {zs : List Int} (hw : Wf ⟨h, F⟩) (hl : LstP h ksN a (iL zs)) (hs : SameH h h1) (hi : i < zs.length) : ∃ b o eo cap, a = .slice b o eo zs.length cap ∧ b < ky F 0 ∧ rdAB (hget h1 b) (o + i * 1) 1 = some [.int .i64 zs[i]] := by
  obtain ⟨b, o, eo, cap, e, h0, hp⟩ := hl.at (i := i) (by rw [iL_len]; exact hi)
  have el : (iL zs)[i]'(by rw [iL_len]; exact hi) = [.int .i64 zs[i]] := by simp [iL]
  rw [el] at h0
  rw [iL_len] at e
  exact ⟨b, o, eo, cap, e, rd_low hw h0, hs.rd h0⟩
theorem rLenN {h h2 : Heap} {a : AV} {zs : List Int} (hl : LstP h ksN a (iL zs)) : rLen1 Tryz.prog h2 27 (some a) = some (.int .i64 (zs.length : Int)) := by
  rw [rLen1_L Tryz.underlying27 hl, iL_len]

theorem ints5 (h : Heap) (F : Nat) (a b : AV) (zs : List Int) (hA : LstP h ksN a (iL zs)) (hB : LstP h ksN b (iL zs)) : Snd Tryz.prog [] 5 [a, b] ⟨h, F⟩ [.val (.bool true) ⟨h, F⟩] := by
  have mxl : maxLen = 9223372036854775807 := by decide
  refine snd_val (by simp [Kin]) fun hw => ?_
  have hs : zs.length ≤ maxLen := by have := hA.len; rw [iL_len] at this; exact this
  refine sndQ_body (K := K0) kok0 mixed noNum (m := zs.length + 1) Tryz.func5 ?_
  generalize hQ : retQ _ _ _ _ _ _ = Q0
  refine body_go (c := Tryz.f5.body.getD .skip) (n := 26) rfl rfl (by simp only [↓reduceIte, T.setList, T.set_e, T.set_n, Nat.reduceDiv, Nat.reduceMod, Nat.reduceEqDiff, Nat.zero_add] <;> rfl) ?_
  simp only [Tryz.f5, Option.getD_some]
  repeat' (first
  | with_reducible refine r_seq ?_
  | with_reducible refine r_next ?_
  | with_reducible refine r_block ?_
  | with_reducible refine r_seq_exit ?_
  | with_reducible refine r_seq_ret ?_
  | with_reducible refine r_blk_n ?_
  | with_reducible refine r_blk_ret ?_
  | with_reducible refine r_blk_hit ?_
  | with_reducible refine r_blk_miss rfl ?_
  | with_reducible refine r_skip ?_
  | with_reducible refine r_exit ?_
  | with_reducible refine r_ret ?_
  | with_reducible refine r_rq_exit ?_
  | with_reducible refine r_rq_ret ?_
  | ((with_reducible apply r_regA); (focus (simp only [List.append_eq, List.cons_append, List.nil_append] <;> rfl)); (focus (first | exact Nat.le_of_ble_eq_true rfl | (simp only [List.length_cons, List.length_nil]; omega))))
  | ((with_reducible refine r_reg (List.toList_toArray) ?_ ?_); focus (first | exact Nat.le_of_ble_eq_true rfl | (simp only [List.length_cons, List.length_nil]; omega)))
  | ((with_reducible apply r_end); focus (simp only [Nat.reduceAdd, Nat.zero_add] <;> rfl))
  | ((with_reducible (first | apply r_any | apply r_cond)); focus (simp only [↓reduceIte, clsOf, clsCall, Fr.ev, ofV, ofA, ofS, put_mk, pureOp, readOp, pBin, binA, intOp_neq, List.getElem?_cons_zero, Nat.reduceLT, Nat.reduceEqDiff, Nat.reduceSub, binA, bne_self_eq_false, stepOp, stV_mk, T.get_n, T.set_n, T.set_e, Nat.reduceDiv, Nat.reduceMod, stepAny, wantedA_none, rCall, rLen, rLenN hA, rLenN hB, bne_self_eq_false] <;> rfl))
  | (with_reducible rw [ifQ_t])
  | (with_reducible rw [ifQ_f])
  | (with_reducible refine ifQ_intro ?_ ?_ <;> intro hb))
  · refine r_loop (I := fun nn fr s1 => ∃ lc tt h1 i, fr = ⟨F, lc, 26, tt, [], .no⟩ ∧ s1 = ⟨h1, F + 1⟩ ∧ i ≤ zs.length ∧ nn = zs.length - i ∧ 2 ≤ lc ∧ lc + nn * 1000 ≤ 100000000000000000000000000 ∧ SameH h h1 ∧ tt.get 0 = some (a) ∧ tt.get 1 = some (b) ∧ tt.get 5 = some (.int .i64 i) ∧ (True)) (n := zs.length) ?_ ?_ ?_
    · omega
    · exact ⟨_, _, _, 0, rfl, rfl, Nat.zero_le _, (Nat.sub_zero _).symm, by first | omega | exact Nat.le_of_ble_eq_true rfl, by omega, (by repeat (first | exact SameH.refl _ | refine SameH.hset hw ?_ (ky_le _ _))), (by first | rfl | (simp only [Nat.reduceLT, Tget_set, T.get_n, T.get_e, Nat.reduceEqDiff, Nat.reduceDiv, Nat.reduceMod, Nat.reduceSub, ↓reduceIte, if_true, if_false, hget_same, hget_hset_ite, ky_inj, Nat.reduceAdd, Nat.zero_add, rLenN hA, rLenN hB, bne_self_eq_false] <;> rfl)), (by first | rfl | (simp only [Nat.reduceLT, Tget_set, T.get_n, T.get_e, Nat.reduceEqDiff, Nat.reduceDiv, Nat.reduceMod, Nat.reduceSub, ↓reduceIte, if_true, if_false, hget_same, hget_hset_ite, ky_inj, Nat.reduceAdd, Nat.zero_add, rLenN hA, rLenN hB, bne_self_eq_false] <;> rfl)), (by first | rfl | (simp only [Nat.reduceLT, Tget_set, T.get_n, T.get_e, Nat.reduceEqDiff, Nat.reduceDiv, Nat.reduceMod, Nat.reduceSub, ↓reduceIte, if_true, if_false, hget_same, hget_hset_ite, ky_inj, Nat.reduceAdd, Nat.zero_add, rLenN hA, rLenN hB, bne_self_eq_false] <;> rfl)), trivial⟩
    rintro nn fr s1 ⟨lc, tt, h1, i, rfl, rfl, hi, rfl, hl0, hlc, hS, ht0, ht1, ht5, hI⟩
    by_cases hil : i < zs.length
    · obtain ⟨b, o, eo, cap, rfl, hb0, r0⟩ := num_at hw hA hS hil
      obtain ⟨b2, o2, eo2, cap2, rfl, hb2, q0⟩ := num_at hw hB hS hil
      repeat' (first
      | with_reducible refine r_seq ?_
      | with_reducible refine r_next ?_
      | with_reducible refine r_block ?_
      | with_reducible refine r_seq_exit ?_
      | with_reducible refine r_seq_ret ?_
      | with_reducible refine r_blk_n ?_
      | with_reducible refine r_blk_ret ?_
      | with_reducible refine r_blk_hit ?_
      | with_reducible refine r_blk_miss rfl ?_
      | with_reducible refine r_skip ?_
      | with_reducible refine r_exit ?_
      | with_reducible refine r_ret ?_
      | with_reducible refine r_rq_exit ?_
      | with_reducible refine r_rq_ret ?_
      | ((with_reducible apply r_regA); (focus (simp only [List.append_eq, List.cons_append, List.nil_append] <;> rfl)); (focus (first | exact Nat.le_of_ble_eq_true rfl | (simp only [List.length_cons, List.length_nil]; omega))))
      | ((with_reducible refine r_reg (List.toList_toArray) ?_ ?_); focus (first | exact Nat.le_of_ble_eq_true rfl | (simp only [List.length_cons, List.length_nil]; omega)))
      | ((with_reducible apply r_end); focus (simp only [Nat.add_assoc, Nat.reduceAdd, Nat.zero_add] <;> rfl))
      | ((with_reducible (first | apply r_any | apply r_cond)); focus (simp only [↓reduceIte, clsOf, clsCall, Fr.ev, ofV, ofA, ofS, put_mk, pureOp, readOp, pBin, binA, intOp_lss, List.getElem?_cons_zero, Nat.reduceLT, Nat.reduceEqDiff, binA, stepOp, stV_mk, stepAny, wantedA_none, rCall, rLen, Tget_set, ht0, ht5, lt_t hil, rLenN hA, intOp_add (inR_succ hil hs)] <;> rfl))
      | (with_reducible rw [ifQ_t])
      | (with_reducible rw [ifQ_f])
      | ((with_reducible apply (r_drawW (js := [0, 1, 2, 3, 4, 5, 6, 7, 8]))); (focus kernel_rfl); (focus kernel_rfl); (focus (first | exact Nat.le_of_ble_eq_true rfl | (simp only [List.length_cons, List.length_nil]; omega))))
      | ((with_reducible apply d_end); (focus (simp only [List.length_cons, List.length_nil, Nat.add_assoc, Nat.reduceAdd, Nat.zero_add] <;> rfl)))
      | ((with_reducible apply d_any); (focus rfl); (iterate 2 (focus (simp only [↓reduceIte, clsOf, Fr.ev, put_mk, pureOp, readOp, rLd, oneCell_one, pBin, binA, intOp_neq, Nat.reduceLT, Nat.reduceEqDiff, loadA_w, loadW_s, binA, bne_self_eq_false, stepOp, stV_mk, sz3, ag3, stepAny, wantedA_none, readSelf, av_int, pIA_s Tryz.underlying27 sz3 hil, r0, q0, bne_self_eq_false, Tget_set, ht0, ht1, ht5] <;> rfl))); (focus (first | exact SameH.refl _ | (simp only [sameT, sameS hw]; done))))
      | (with_reducible refine ifQ_intro ?_ ?_ <;> intro hb))
      · refine r_rq_n (k := zs.length - (i + 1)) (by omega) ⟨_, _, _, i + 1, rfl, rfl, by omega, rfl, by omega, by omega, hS, (by simp only [Tget_set, Nat.reduceEqDiff, ↓reduceIte, Tget_set, ht0] <;> rfl), (by simp only [Tget_set, Nat.reduceEqDiff, ↓reduceIte, Tget_set, ht1] <;> rfl), (by simp only [Tget_set, ↓reduceIte, Tget_set] <;> rfl), trivial⟩
    · have hend : i = zs.length := by omega
      repeat' (first
      | with_reducible refine r_seq ?_
      | with_reducible refine r_next ?_
      | with_reducible refine r_block ?_
      | with_reducible refine r_seq_exit ?_
      | with_reducible refine r_seq_ret ?_
      | with_reducible refine r_blk_n ?_
      | with_reducible refine r_blk_ret ?_
      | with_reducible refine r_blk_hit ?_
      | with_reducible refine r_blk_miss rfl ?_
      | with_reducible refine r_skip ?_
      | with_reducible refine r_exit ?_
      | with_reducible refine r_ret ?_
      | with_reducible refine r_rq_exit ?_
      | with_reducible refine r_rq_ret ?_
      | ((with_reducible apply r_regA); (focus (simp only [List.append_eq, List.cons_append, List.nil_append] <;> rfl)); (focus (first | exact Nat.le_of_ble_eq_true rfl | (simp only [List.length_cons, List.length_nil]; omega))))
      | ((with_reducible refine r_reg (List.toList_toArray) ?_ ?_); focus (first | exact Nat.le_of_ble_eq_true rfl | (simp only [List.length_cons, List.length_nil]; omega)))
      | ((with_reducible apply r_end); focus (simp only [Nat.add_assoc, Nat.reduceAdd, Nat.zero_add] <;> rfl))
      | ((with_reducible (first | apply r_any | apply r_cond)); focus (simp only [↓reduceIte, clsOf, clsCall, Fr.ev, ofV, ofA, ofS, put_mk, pureOp, readOp, pBin, binA, intOp_lss, List.getElem?_cons_zero, Nat.reduceLT, Nat.reduceEqDiff, binA, stepOp, stV_mk, stepAny, wantedA_none, rCall, rLen, Tget_set, ht0, ht5, lt_f hil, rLenN hA] <;> rfl))
      | (with_reducible rw [ifQ_t])
      | (with_reducible rw [ifQ_f])
      | (with_reducible refine ifQ_intro ?_ ?_ <;> intro hb))
      · subst hQ
        refine ret_back (by simp only [Tryz.results5, resultOf, resultsA, resultA, List.toList_toArray, Fr.ev, Tget_set, ↓reduceIte] <;> rfl) ⟨_, rfl, ?_⟩
        repeat (first | exact Same.base _ _ _ | exact hS | refine Same.hset hw ?_ (ky_le _ _))


end Go.Proofs.YtdcindnnbmilaaaGreatDoor

