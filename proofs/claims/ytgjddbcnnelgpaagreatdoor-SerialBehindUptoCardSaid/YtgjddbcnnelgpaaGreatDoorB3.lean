/- A part of the proof of the law SerialBehind. CONDITIONS: those that each theorem names. -/
import Derived.Test.YtgjddbcnnelgpaaGreatDoorB6
import Derived.Test.YtgjddbcnnelgpaaGreatDoorS19Live
namespace Go.Proofs.YtgjddbcnnelgpaaGreatDoor
open Go Go.Ai
set_option maxRecDepth 100000

noncomputable def behindZ (M : List (List Int)) (q : Int) : List Int := open Classical in if 0 ≤ q ∧ q < M.length then behind M q.toNat else []
def S3 (Z : List Int) : FuncId → List AV → St → Out → Prop
  | 5, _, s, o => o = .val (.bool true) s
  | 6, _, s, o => o = .val (.bool true) s
  | 7, _, s, o => ∃ v h' F', o = .val v ⟨h', F'⟩ ∧ SameH s.h h' ∧ LstP h' ksN v (iL Z)
  | 8, _, s, o => ∃ v h' F', o = .val v ⟨h', F'⟩ ∧ SameH s.h h' ∧ LstP h' ksN v (iL Z)
  | _, _, _, _ => True
theorem live5 {s : St} : SndQ Tryz.prog [] 5 [] s (fun o => o = .val (.bool true) s) := by
  obtain ⟨_, hb⟩ := body5
  exact ⟨_, snd_true x2_ok mixed noNum run5 Tryz.func5 hb s, fun o ho => List.mem_singleton.1 ho⟩
theorem behind_lt (M : List (List Int)) (s : Nat) : ∀ x ∈ behind M s, 0 ≤ x ∧ x < s := fun x hx => by
  obtain ⟨k, rfl, h1, _⟩ := mem_behind.1 hx
  omega
theorem il_lst {h : Heap} {F lc : Nat} {l : AV} {zs : List Int} (hi : IL h F lc l zs) (hr : ∀ z ∈ zs, 0 ≤ z ∧ z < 1000000) (hm : zs.length ≤ 1000000) : LstP h ksN l (iL zs) := by
  have mxl : maxLen = 9223372036854775807 := by decide
  have hok : ∀ l ∈ iL zs, cksOk ksN l := fun l hl => by
    obtain ⟨z, hz, rfl⟩ := List.mem_map.1 hl
    have h1 := hr z hz
    refine ⟨_, _, rfl, ⟨rfl, ?_, ?_⟩, rfl⟩
    · show -(2 ^ (64 - 1) : Int) ≤ z; omega
    · show z ≤ (2 ^ (64 - 1) : Int) - 1; omega
  rcases hi with ⟨rfl, rfl⟩ | ⟨hp, c, _, rfl, hg⟩
  · exact ⟨hok, by rw [iL_len]; omega, .inl ⟨.inl rfl, rfl⟩⟩
  · refine ⟨hok, by rw [iL_len]; omega, .inr ⟨_, 0, 0, none, by rw [iL_len], fun _ => ?_⟩⟩
    rw [hg, rdAB_row, iL_len, iL_flat, if_pos (by rw [ints_len]; simp), List.drop_zero, List.take_of_length_le (by rw [ints_len]; simp)]
theorem behind_len (M : List (List Int)) (s : Nat) : (behind M s).length ≤ s := by
  unfold behind
  rw [List.length_map]
  exact Nat.le_trans (List.length_filter_le _ _) (by simp)
theorem calls78 {h : Heap} {F : Nat} {a : AV} {LL : List (List (List AV))} (hA : Lst2 h ksC a LL) (hN : LL.length ≤ 1000) (hM : ∀ l ∈ LL, l.length ≤ 100000) (q : Int) :
    SndQ Tryz.prog [] 7 [a, .int .i64 q] ⟨h, F⟩ (S3 (behindZ (LL.map seqs) q) 7 [a, .int .i64 q] ⟨h, F⟩) ∧ SndQ Tryz.prog [] 8 [a, .int .i64 q] ⟨h, F⟩ (S3 (behindZ (LL.map seqs) q) 8 [a, .int .i64 q] ⟨h, F⟩) := by
  have hl : (LL.map seqs).length = LL.length := by simp
  unfold behindZ
  by_cases hq : 0 ≤ q ∧ q < (LL.map seqs).length
  · rw [if_pos hq]
    obtain ⟨s, rfl⟩ := Int.eq_ofNat_of_zero_le hq.1
    simp only [Int.toNat_natCast]
    have hs : s < LL.length := by omega
    have fin : ∀ h1 lc l, Wf ⟨h, F⟩ → SameH h h1 → IL h1 F lc l (behind (LL.map seqs) s) → ∃ v h' F', Out.val l ⟨h1, F + 1⟩ = .val v ⟨h', F'⟩ ∧ SameH h h' ∧ LstP h' ksN v (iL (behind (LL.map seqs) s)) := by
      intro h1 lc l _ hs1 hi
      refine ⟨_, _, _, rfl, hs1, il_lst hi (fun z hz => ?_) ?_⟩
      · have := behind_lt _ _ z hz; omega
      · have := behind_len (LL.map seqs) s; omega
    exact ⟨prog7 kb_ok h F a LL hA hN hM s hs fin, ref8 h F a LL hA hN hM s hs fin⟩
  · rw [if_neg hq]
    obtain ⟨h7, h8⟩ := out78 h F a LL hA q (by omega)
    have fin : ∀ o ∈ [Out.val .nils ⟨h, F⟩], ∃ v h' F', o = .val v ⟨h', F'⟩ ∧ SameH h h' ∧ LstP h' ksN v (iL []) := fun o ho => ⟨.nils, h, F, List.mem_singleton.1 ho, SameH.refl h, by simp [iL], by simp [iL], .inl ⟨.inl rfl, rfl⟩⟩
    exact ⟨⟨_, h7, fin⟩, ⟨_, h8, fin⟩⟩
def cnt (LL : List (List (List AV))) (i : Nat) : Nat := LL.length + ((LL.take i).map List.length).sum
theorem cnt_succ {LL : List (List (List AV))} {i : Nat} {l : List (List AV)} (h : LL[i]? = some l) : cnt LL (i + 1) = cnt LL i + l.length := by
  unfold cnt
  rw [List.take_add_one, h]
  simp
  omega
theorem sum_mem : ∀ {l : List Nat} {x : Nat}, x ∈ l → x ≤ l.sum
  | y :: l, x, h => by
    rw [List.sum_cons]
    rcases List.mem_cons.1 h with rfl | h
    · omega
    · have := sum_mem h; omega
theorem cnt_mem {LL : List (List (List AV))} {l : List (List AV)} (h : l ∈ LL) : l.length ≤ cnt LL LL.length := by
  unfold cnt
  rw [List.take_length]
  have := sum_mem (List.mem_map_of_mem (f := List.length) h)
  omega
theorem cnt_le {LL : List (List (List AV))} (hN : LL.length ≤ 2000000) (hM : ∀ l ∈ LL, l.length ≤ 2000000) : ∀ i, i ≤ 300 → cnt LL i ≤ 2000000 + i * 2000000
  | 0, _ => by unfold cnt; simp; omega
  | i + 1, hi => by
    have ih := cnt_le hN hM i (by omega)
    cases hl : LL[i]? with
    | none =>
      have hn := List.getElem?_eq_none_iff.1 hl
      have : cnt LL (i + 1) = cnt LL i := by unfold cnt; rw [List.take_of_length_le hn, List.take_of_length_le (by omega)]
      omega
    | some l =>
      rw [cnt_succ hl]
      have := hM l (List.mem_of_getElem? hl)
      omega
set_option maxHeartbeats 4000000 in
theorem law3 (h : Heap) (F : Nat) (a : AV) (LL : List (List (List AV))) (hA : Lst2 h ksC a LL) (hN : LL.length ≤ 2000000) (hM : ∀ l ∈ LL, l.length ≤ 2000000) (q : Int) : SndQ Tryz.prog [] 3 [a, .int .i64 q] ⟨h, F⟩ (fun o => ∃ s', o = .val (.bool true) s') := by
  have mxl : maxLen = 9223372036854775807 := by decide
  refine sndQ_wf fun hw => ?_
  refine sndQ_body (K := KU Tryz.prog [] (S3 (behindZ (LL.map seqs) q))) ku_ok mixed noNum (m := 1001) Tryz.func3 ?_
  generalize hQ : retQ _ _ _ _ _ _ = Q0
  refine body_go (c := Tryz.f3.body.getD .skip) (n := 44) rfl rfl (by simp only [↓reduceIte, T.setList, T.set_e, T.set_n, Nat.reduceDiv, Nat.reduceMod, Nat.reduceEqDiff, Nat.zero_add] <;> rfl) ?_
  simp only [Tryz.f3, Option.getD_some]
  repeat' (first
  | with_reducible refine r_seq ?_
  | with_reducible refine r_next ?_
  | with_reducible refine r_block ?_
  | with_reducible refine r_seq_exit ?_
  | with_reducible refine r_seq_ret ?_
  | with_reducible refine r_blk_n ?_
  | with_reducible refine r_blk_ret ?_
  | with_reducible refine r_blk_hit ?_
  | with_reducible refine r_blk_miss rfl ?_
  | with_reducible refine r_skip ?_
  | with_reducible refine r_exit ?_
  | with_reducible refine r_ret ?_
  | with_reducible refine r_rq_exit ?_
  | with_reducible refine r_rq_ret ?_
  | ((with_reducible apply r_regA); (focus (simp only [List.append_eq, List.cons_append, List.nil_append] <;> rfl)); (focus (first | exact Nat.le_of_ble_eq_true rfl | (simp only [List.length_cons, List.length_nil]; omega))))
  | ((with_reducible refine r_reg (List.toList_toArray) ?_ ?_); focus (first | exact Nat.le_of_ble_eq_true rfl | (simp only [List.length_cons, List.length_nil]; omega)))
  | ((with_reducible apply r_drawL); (focus kernel_rfl); (focus kernel_rfl); (focus (first | exact Nat.le_of_ble_eq_true rfl | (simp only [List.length_cons, List.length_nil]; omega))))
  | ((with_reducible apply r_end); focus (simp only [Nat.reduceAdd, Nat.zero_add] <;> rfl))
  | ((with_reducible (first | apply r_move | apply r_assign)); (focus (simp only [T.get_n, Nat.reduceEqDiff, Nat.reduceDiv, Nat.reduceMod, Nat.reduceSub, ↓reduceIte] <;> rfl)); (focus (exact Nat.le_of_ble_eq_true rfl)))
  | ((with_reducible apply r_condT); (focus (simp only [Tget_set, T.get_n, T.get_e, Nat.reduceEqDiff, Nat.reduceDiv, Nat.reduceMod, Nat.reduceSub, ↓reduceIte, if_true, if_false] <;> rfl)))
  | ((with_reducible (first | apply r_any | apply r_cond)); focus (simp only [↓reduceIte, clsOf, clsCall, Fr.ev, ofV, ofA, ofS, put_mk, pureOp, readOp, List.getElem?_cons_zero, Nat.reduceLT, Nat.reduceEqDiff, Nat.reduceSub, stepOp, stV_mk, T.get_n, T.set_n, T.set_e, Nat.reduceDiv, Nat.reduceMod, stepAny, wantedA_none, rCall, rLen, rLen1_L2 Tryz.underlying22 hA] <;> rfl))
  | (with_reducible rw [ifQ_t])
  | (with_reducible rw [ifQ_f])
  | (with_reducible refine ifQ_intro ?_ ?_ <;> intro hb))
  refine r_loop (I := fun nn fr s1 => ∃ lc tt i, fr = ⟨F, lc, 44, tt, [], .no⟩ ∧ s1 = ⟨h, F + 1⟩ ∧ i ≤ LL.length ∧ i ≤ 300 ∧ nn = 300 - i ∧ lc + nn * 1000 ≤ 100000000000000000000000000 ∧ tt.get 0 = some a ∧ tt.get 1 = some (.int .i64 q) ∧ tt.get 5 = some (.int .i64 (cnt LL i : Int)) ∧ tt.get 6 = some (.int .i64 (i : Int))) (n := 300) ?_ ?_ ?_
  · omega
  · exact ⟨_, _, 0, rfl, rfl, Nat.zero_le _, Nat.zero_le _, rfl, by omega, (by first | (simp only [T.get_n, ↓reduceIte] <;> rfl) | rfl), (by first | (simp only [T.get_n, Nat.reduceEqDiff, Nat.reduceDiv, Nat.reduceMod, ↓reduceIte] <;> rfl) | rfl), (by first | (simp only [T.get_n, Nat.reduceEqDiff, Nat.reduceDiv, Nat.reduceMod, Nat.reduceSub, ↓reduceIte] <;> rfl) | rfl), (by first | (simp only [T.get_n, Nat.reduceEqDiff, Nat.reduceDiv, Nat.reduceMod, Nat.reduceSub, ↓reduceIte] <;> rfl) | rfl)⟩
  rintro nn fr s1 ⟨lc, tt, i, rfl, rfl, hi, hi3, rfl, hlc, ht0, ht1, ht5, ht6⟩
  by_cases hil : i < LL.length
  · by_cases h300 : i < 300
    · obtain ⟨l, hl⟩ : ∃ l, LL[i]? = some l := ⟨LL[i], by simp⟩
      obtain ⟨b0, o0, eo0, cap0, x, rfl, hb0, r0, hX⟩ := hA.at hw (SameH.refl h) hl
      have hc1 := cnt_le hN hM i hi3
      have hc2 := hM l (List.mem_of_getElem? hl)
      have hadd : intOp Tryz.prog .add 3 .i64 .i64 (cnt LL i : Int) (l.length : Int) = some (.int .i64 (cnt LL (i + 1) : Int)) := by
        rw [intOp_add (by unfold inR; omega), cnt_succ hl]; rfl
      repeat' (first
      | with_reducible refine r_seq ?_
      | with_reducible refine r_next ?_
      | with_reducible refine r_block ?_
      | with_reducible refine r_seq_exit ?_
      | with_reducible refine r_seq_ret ?_
      | with_reducible refine r_blk_n ?_
      | with_reducible refine r_blk_ret ?_
      | with_reducible refine r_blk_hit ?_
      | with_reducible refine r_blk_miss rfl ?_
      | with_reducible refine r_skip ?_
      | with_reducible refine r_exit ?_
      | with_reducible refine r_ret ?_
      | with_reducible refine r_rq_exit ?_
      | with_reducible refine r_rq_ret ?_
      | ((with_reducible apply r_regA); (focus (simp only [List.append_eq, List.cons_append, List.nil_append] <;> rfl)); (focus (first | exact Nat.le_of_ble_eq_true rfl | (simp only [List.length_cons, List.length_nil]; omega))))
      | ((with_reducible refine r_reg (List.toList_toArray) ?_ ?_); focus (first | exact Nat.le_of_ble_eq_true rfl | (simp only [List.length_cons, List.length_nil]; omega)))
      | ((with_reducible apply r_drawL); (focus kernel_rfl); (focus kernel_rfl); (focus (first | exact Nat.le_of_ble_eq_true rfl | (simp only [List.length_cons, List.length_nil]; omega))))
      | ((with_reducible apply r_end); focus (simp only [Nat.add_assoc, Nat.reduceAdd, Nat.zero_add] <;> rfl))
      | ((with_reducible (first | apply r_move | apply r_assign)); (focus (simp only [Tget_set, Nat.reduceEqDiff, ↓reduceIte, ht0, ht5, ht6] <;> rfl)); (focus (exact Nat.le_of_ble_eq_true rfl)))
      | ((with_reducible apply r_condT); (focus (simp only [Tget_set, ↓reduceIte] <;> rfl)))
      | ((with_reducible (first | apply r_any | apply r_cond)); focus (simp only [↓reduceIte, wantedA_eq, gBool_t, clsOf, clsCall, Fr.ev, ofV, ofA, ofS, put_mk, pureOp, readOp, rLd, oneCell_one, pBin, binA, intOp_lss, pPick, List.getElem?_cons_zero, List.getElem?_cons_succ, Nat.reduceLT, Nat.reduceEqDiff, loadA_w, loadW_s, binA, stepOp, stV_mk, Tryz.underlying22, sz23, ag23, stepAny, wantedA_none, rCall, rLen, rLen1_sl, lenA, Tget_set, ht6, lt_t hil, ls_t (show (i : Int) < 300 by omega), pIA_s Tryz.underlying22 sz23 hil, r0, rLen1_L Tryz.underlying23 hX, hadd, intOp_add (show inR ((i : Int) + 1) by unfold inR; omega)] <;> rfl))
      | (with_reducible rw [ifQ_t])
      | (with_reducible rw [ifQ_f])
      | (with_reducible refine ifQ_intro ?_ ?_ <;> intro hb))
      exact r_rq_n (k := 300 - (i + 1)) (by omega) ⟨_, _, i + 1, rfl, rfl, by omega, by omega, rfl, by omega, (by first | (simp only [Tget_set, Nat.reduceEqDiff, ↓reduceIte, ht0] <;> rfl) | rfl), (by first | (simp only [Tget_set, Nat.reduceEqDiff, ↓reduceIte, ht1] <;> rfl) | rfl), (by first | (simp only [Tget_set, Nat.reduceEqDiff, ↓reduceIte] <;> rfl) | rfl), (by first | (simp only [Tget_set, ↓reduceIte] <;> rfl) | rfl)⟩
    · have hbig : ¬ (LL.length : Int) ≤ 300 := by omega
      by_cases hc : (3000 : Int) < (cnt LL i : Int)
      · repeat' (first
        | with_reducible refine r_seq ?_
        | with_reducible refine r_next ?_
        | with_reducible refine r_block ?_
        | with_reducible refine r_seq_exit ?_
        | with_reducible refine r_seq_ret ?_
        | with_reducible refine r_blk_n ?_
        | with_reducible refine r_blk_ret ?_
        | with_reducible refine r_blk_hit ?_
        | with_reducible refine r_blk_miss rfl ?_
        | with_reducible refine r_skip ?_
        | with_reducible refine r_exit ?_
        | with_reducible refine r_ret ?_
        | with_reducible refine r_rq_exit ?_
        | with_reducible refine r_rq_ret ?_
        | ((with_reducible apply r_regA); (focus (simp only [List.append_eq, List.cons_append, List.nil_append] <;> rfl)); (focus (first | exact Nat.le_of_ble_eq_true rfl | (simp only [List.length_cons, List.length_nil]; omega))))
        | ((with_reducible refine r_reg (List.toList_toArray) ?_ ?_); focus (first | exact Nat.le_of_ble_eq_true rfl | (simp only [List.length_cons, List.length_nil]; omega)))
        | ((with_reducible apply r_drawL); (focus kernel_rfl); (focus kernel_rfl); (focus (first | exact Nat.le_of_ble_eq_true rfl | (simp only [List.length_cons, List.length_nil]; omega))))
        | ((with_reducible apply r_end); focus (simp only [Nat.add_assoc, Nat.reduceAdd, Nat.zero_add] <;> rfl))
        | ((with_reducible (first | apply r_move | apply r_assign)); (focus (simp only [Tget_set, Nat.reduceEqDiff, ↓reduceIte, ht0, ht5, ht6] <;> rfl)); (focus (exact Nat.le_of_ble_eq_true rfl)))
        | ((with_reducible apply r_condT); (focus (simp only [Tget_set, ↓reduceIte] <;> rfl)))
        | ((with_reducible (first | apply r_any | apply r_cond)); focus (simp only [↓reduceIte, wantedA_eq, gBool_t, gBool_f, Bool.not_true, clsOf, clsCall, Fr.ev, evs, ofV, ofA, ofS, put_mk, pureOp, readOp, pBin, binA, intOp_lss, intOp_gtr, pPick, List.getElem?_cons_zero, List.getElem?_cons_succ, Nat.reduceLT, Nat.reduceEqDiff, callTo_s, heavyCall, target, List.append_nil, binA, stepOp, stHeavy, stV_mk, stepAny, wantedA_none, rCall, rLen, Tget_set, ht6, lt_t hil, ls_f (show ¬ (i : Int) < 300 by omega), ls_t hc, rLen1_L2 Tryz.underlying22 hA] <;> rfl))
        | (with_reducible rw [ifQ_t])
        | (with_reducible rw [ifQ_f])
        | (with_reducible refine ifQ_intro ?_ ?_ <;> intro hb))
        refine r_callQ (f := 5) (by simp only [wantedA_none] <;> rfl) (by simp only [callOuts, ku_fn, callTo_s, target, Fr.ev, evs, callTo_s, target, List.append_nil] <;> rfl) ?_ ?_
        · exact live5
        · rintro o rfl
          refine ⟨_, by simp only [put_mk, Nat.reduceLT, ↓reduceIte] <;> rfl, ?_⟩
          repeat' (first
          | with_reducible refine r_seq ?_
          | with_reducible refine r_next ?_
          | with_reducible refine r_block ?_
          | with_reducible refine r_seq_exit ?_
          | with_reducible refine r_seq_ret ?_
          | with_reducible refine r_blk_n ?_
          | with_reducible refine r_blk_ret ?_
          | with_reducible refine r_blk_hit ?_
          | with_reducible refine r_blk_miss rfl ?_
          | with_reducible refine r_skip ?_
          | with_reducible refine r_exit ?_
          | with_reducible refine r_ret ?_
          | with_reducible refine r_rq_exit ?_
          | with_reducible refine r_rq_ret ?_
          | ((with_reducible apply r_regA); (focus (simp only [List.append_eq, List.cons_append, List.nil_append] <;> rfl)); (focus (first | exact Nat.le_of_ble_eq_true rfl | (simp only [List.length_cons, List.length_nil]; omega))))
          | ((with_reducible refine r_reg (List.toList_toArray) ?_ ?_); focus (first | exact Nat.le_of_ble_eq_true rfl | (simp only [List.length_cons, List.length_nil]; omega)))
          | ((with_reducible apply r_drawL); (focus kernel_rfl); (focus kernel_rfl); (focus (first | exact Nat.le_of_ble_eq_true rfl | (simp only [List.length_cons, List.length_nil]; omega))))
          | ((with_reducible apply r_end); focus (simp only [Nat.add_assoc, Nat.reduceAdd, Nat.zero_add] <;> rfl))
          | ((with_reducible (first | apply r_move | apply r_assign)); (focus (simp only [Tget_set, ↓reduceIte] <;> rfl)); (focus (exact Nat.le_of_ble_eq_true rfl)))
          | ((with_reducible apply r_condT); (focus (simp only [Tget_set, T.get_n, T.get_e, Nat.reduceEqDiff, Nat.reduceDiv, Nat.reduceMod, Nat.reduceSub, ↓reduceIte, if_true, if_false, ht0, ht1, ht5, ht6] <;> rfl)))
          | ((with_reducible (first | apply r_any | apply r_cond)); focus (simp only [↓reduceIte, wantedA_eq, gBool_t, gBool_f, Bool.not_true, Bool.not_false, Bool.not_not, clsOf, clsCall, newBlk, allocOp, ev_tmp, Fr.ev, evs, evParts, ofV, ofA, ofS, ofSs, ofAs, nVar, AV.cells, rowOf_mk, put_mk, put_none, upd_mk, withH_mk, keyOf_mk, ky_inj, pureOp, readOp, T.get_e, pFA, pFA1, pFA2, rLd, rdAB_row, oneCell_one, someAgg_s, hget_same, hget_hset_ite, pBin, binA, intOp_eql, intOp_neq, intOp_lss, intOp_leq, intOp_gtr, intOp_geq, pPick, List.length_cons, List.length_nil, List.getElem?_cons_zero, List.getElem?_cons_succ, List.drop_zero, List.drop_succ_cons, List.take_succ_cons, List.take_zero, Nat.zero_add, Nat.add_zero, Nat.reduceAdd, Nat.reduceLT, Nat.reduceLeDiff, Nat.reduceEqDiff, Nat.reduceMul, Nat.reduceSub, Nat.succ_eq_add_one, if_true, if_false, true_and, and_true, and_self, List.toList_toArray, Nat.add_eq, Nat.mul_eq, Nat.sub_eq, loadA_w, loadW_a, loadW_s, aSt_w, stOut_s, wrAB_row, ovr, List.set_cons_zero, List.set_cons_succ, allCell, isCell, pUn_not, callTo_s, heavyCall, target, actOp, pEx, List.nil_append, List.append_nil, pNil, pBuild, pBuild2, fieldsOk, buildParts, List.getElem?_nil, pMkF, binA, eqIn, eqGuardOk, pF, pF1, partA, beq_self_eq_true, bne_self_eq_false, decide_true, decide_false, Int.reduceBEq, Int.reduceBNe, Int.reduceLT, Int.reduceLE, Int.reduceEq, Int.reduceNeg, Int.reduceAdd, Int.reduceSub, Bool.and_true, Bool.true_and, Bool.and_false, Bool.false_and, stepOp, stHeavy, stV_mk, stB_mk, stO_mk, T.get_n, T.set_n, T.set_e, Nat.reduceDiv, Nat.reduceMod, ofNat_z, sz2, ag2, zr2, Tryz.underlying2, sz3, ag3, zr3, Tryz.underlying3, sz9, ag9, zr9, Tryz.underlying9, sz22, ag22, zr22, Tryz.underlying22, sz23, ag23, zr23, Tryz.underlying23, sz26, ag26, zr26, Tryz.underlying26, sz74, ag74, zr74, Tryz.underlying74, stepAny, wantedA_none, rCall, rLen, rLen1_str, rLen1_sl, lenA, Tget_set, natOf_c, ht0, ht1, ht5, ht6, lt_t hil, ls_f (show ¬ (i : Int) < 300 by omega), ls_t hc, rLen1_L2 Tryz.underlying22 hA] <;> rfl))
          | (with_reducible rw [ifQ_t])
          | (with_reducible rw [ifQ_f])
          | (with_reducible refine ifQ_intro ?_ ?_ <;> intro hb))
          subst hQ
          refine ret_back (by simp only [Tryz.results3, resultOf, resultsA, resultA, List.toList_toArray, Fr.ev, Tget_set, ↓reduceIte] <;> rfl) ?_
          exact ⟨_, rfl⟩
      · repeat' (first
        | with_reducible refine r_seq ?_
        | with_reducible refine r_next ?_
        | with_reducible refine r_block ?_
        | with_reducible refine r_seq_exit ?_
        | with_reducible refine r_seq_ret ?_
        | with_reducible refine r_blk_n ?_
        | with_reducible refine r_blk_ret ?_
        | with_reducible refine r_blk_hit ?_
        | with_reducible refine r_blk_miss rfl ?_
        | with_reducible refine r_skip ?_
        | with_reducible refine r_exit ?_
        | with_reducible refine r_ret ?_
        | with_reducible refine r_rq_exit ?_
        | with_reducible refine r_rq_ret ?_
        | ((with_reducible apply r_regA); (focus (simp only [List.append_eq, List.cons_append, List.nil_append] <;> rfl)); (focus (first | exact Nat.le_of_ble_eq_true rfl | (simp only [List.length_cons, List.length_nil]; omega))))
        | ((with_reducible refine r_reg (List.toList_toArray) ?_ ?_); focus (first | exact Nat.le_of_ble_eq_true rfl | (simp only [List.length_cons, List.length_nil]; omega)))
        | ((with_reducible apply r_drawL); (focus kernel_rfl); (focus kernel_rfl); (focus (first | exact Nat.le_of_ble_eq_true rfl | (simp only [List.length_cons, List.length_nil]; omega))))
        | ((with_reducible apply r_end); focus (simp only [Nat.add_assoc, Nat.reduceAdd, Nat.zero_add] <;> rfl))
        | ((with_reducible (first | apply r_move | apply r_assign)); (focus (simp only [Tget_set, Nat.reduceEqDiff, ↓reduceIte, ht0, ht5, ht6] <;> rfl)); (focus (exact Nat.le_of_ble_eq_true rfl)))
        | ((with_reducible apply r_condT); (focus (simp only [Tget_set, ↓reduceIte] <;> rfl)))
        | ((with_reducible (first | apply r_any | apply r_cond)); focus (simp only [↓reduceIte, wantedA_eq, gBool_t, gBool_f, Bool.not_false, clsOf, clsCall, Fr.ev, evs, ofV, ofA, ofS, put_mk, pureOp, readOp, pBin, binA, intOp_lss, intOp_gtr, pPick, List.getElem?_cons_zero, List.getElem?_cons_succ, Nat.reduceLT, Nat.reduceEqDiff, callTo_s, heavyCall, target, List.append_nil, binA, stepOp, stHeavy, stV_mk, stepAny, wantedA_none, rCall, rLen, Tget_set, ht0, ht6, lt_t hil, ls_f (show ¬ (i : Int) < 300 by omega), ls_f hc, ls_t (show (300 : Int) < (LL.length : Int) by omega), rLen1_L2 Tryz.underlying22 hA] <;> rfl))
        | (with_reducible rw [ifQ_t])
        | (with_reducible rw [ifQ_f])
        | (with_reducible refine ifQ_intro ?_ ?_ <;> intro hb))
        refine r_callQ (f := 5) (by simp only [wantedA_none] <;> rfl) (by simp only [callOuts, ku_fn, callTo_s, target, Fr.ev, evs, callTo_s, target, List.append_nil] <;> rfl) ?_ ?_
        · exact live5
        · rintro o rfl
          refine ⟨_, by simp only [put_mk, Nat.reduceLT, ↓reduceIte] <;> rfl, ?_⟩
          repeat' (first
          | with_reducible refine r_seq ?_
          | with_reducible refine r_next ?_
          | with_reducible refine r_block ?_
          | with_reducible refine r_seq_exit ?_
          | with_reducible refine r_seq_ret ?_
          | with_reducible refine r_blk_n ?_
          | with_reducible refine r_blk_ret ?_
          | with_reducible refine r_blk_hit ?_
          | with_reducible refine r_blk_miss rfl ?_
          | with_reducible refine r_skip ?_
          | with_reducible refine r_exit ?_
          | with_reducible refine r_ret ?_
          | with_reducible refine r_rq_exit ?_
          | with_reducible refine r_rq_ret ?_
          | ((with_reducible apply r_regA); (focus (simp only [List.append_eq, List.cons_append, List.nil_append] <;> rfl)); (focus (first | exact Nat.le_of_ble_eq_true rfl | (simp only [List.length_cons, List.length_nil]; omega))))
          | ((with_reducible refine r_reg (List.toList_toArray) ?_ ?_); focus (first | exact Nat.le_of_ble_eq_true rfl | (simp only [List.length_cons, List.length_nil]; omega)))
          | ((with_reducible apply r_drawL); (focus kernel_rfl); (focus kernel_rfl); (focus (first | exact Nat.le_of_ble_eq_true rfl | (simp only [List.length_cons, List.length_nil]; omega))))
          | ((with_reducible apply r_end); focus (simp only [Nat.add_assoc, Nat.reduceAdd, Nat.zero_add] <;> rfl))
          | ((with_reducible (first | apply r_move | apply r_assign)); (focus (simp only [Tget_set, ↓reduceIte] <;> rfl)); (focus (exact Nat.le_of_ble_eq_true rfl)))
          | ((with_reducible apply r_condT); (focus (simp only [Tget_set, T.get_n, T.get_e, Nat.reduceEqDiff, Nat.reduceDiv, Nat.reduceMod, Nat.reduceSub, ↓reduceIte, if_true, if_false, ht0, ht1, ht5, ht6] <;> rfl)))
          | ((with_reducible (first | apply r_any | apply r_cond)); focus (simp only [↓reduceIte, wantedA_eq, gBool_t, gBool_f, Bool.not_true, Bool.not_false, Bool.not_not, clsOf, clsCall, newBlk, allocOp, ev_tmp, Fr.ev, evs, evParts, ofV, ofA, ofS, ofSs, ofAs, nVar, AV.cells, rowOf_mk, put_mk, put_none, upd_mk, withH_mk, keyOf_mk, ky_inj, pureOp, readOp, T.get_e, pFA, pFA1, pFA2, rLd, rdAB_row, oneCell_one, someAgg_s, hget_same, hget_hset_ite, pBin, binA, intOp_eql, intOp_neq, intOp_lss, intOp_leq, intOp_gtr, intOp_geq, pPick, List.length_cons, List.length_nil, List.getElem?_cons_zero, List.getElem?_cons_succ, List.drop_zero, List.drop_succ_cons, List.take_succ_cons, List.take_zero, Nat.zero_add, Nat.add_zero, Nat.reduceAdd, Nat.reduceLT, Nat.reduceLeDiff, Nat.reduceEqDiff, Nat.reduceMul, Nat.reduceSub, Nat.succ_eq_add_one, if_true, if_false, true_and, and_true, and_self, List.toList_toArray, Nat.add_eq, Nat.mul_eq, Nat.sub_eq, loadA_w, loadW_a, loadW_s, aSt_w, stOut_s, wrAB_row, ovr, List.set_cons_zero, List.set_cons_succ, allCell, isCell, pUn_not, callTo_s, heavyCall, target, actOp, pEx, List.nil_append, List.append_nil, pNil, pBuild, pBuild2, fieldsOk, buildParts, List.getElem?_nil, pMkF, binA, eqIn, eqGuardOk, pF, pF1, partA, beq_self_eq_true, bne_self_eq_false, decide_true, decide_false, Int.reduceBEq, Int.reduceBNe, Int.reduceLT, Int.reduceLE, Int.reduceEq, Int.reduceNeg, Int.reduceAdd, Int.reduceSub, Bool.and_true, Bool.true_and, Bool.and_false, Bool.false_and, stepOp, stHeavy, stV_mk, stB_mk, stO_mk, T.get_n, T.set_n, T.set_e, Nat.reduceDiv, Nat.reduceMod, ofNat_z, sz2, ag2, zr2, Tryz.underlying2, sz3, ag3, zr3, Tryz.underlying3, sz9, ag9, zr9, Tryz.underlying9, sz22, ag22, zr22, Tryz.underlying22, sz23, ag23, zr23, Tryz.underlying23, sz26, ag26, zr26, Tryz.underlying26, sz74, ag74, zr74, Tryz.underlying74, stepAny, wantedA_none, rCall, rLen, rLen1_str, rLen1_sl, lenA, Tget_set, natOf_c, ht0, ht1, ht5, ht6, lt_t hil, ls_f (show ¬ (i : Int) < 300 by omega), ls_f hc, ls_t (show (300 : Int) < (LL.length : Int) by omega), rLen1_L2 Tryz.underlying22 hA] <;> rfl))
          | (with_reducible rw [ifQ_t])
          | (with_reducible rw [ifQ_f])
          | (with_reducible refine ifQ_intro ?_ ?_ <;> intro hb))
          subst hQ
          refine ret_back (by simp only [Tryz.results3, resultOf, resultsA, resultA, List.toList_toArray, Fr.ev, Tget_set, ↓reduceIte] <;> rfl) ?_
          exact ⟨_, rfl⟩
  · have hend : i = LL.length := by omega
    subst hend
    by_cases hc : (3000 : Int) < (cnt LL LL.length : Int)
    · repeat' (first
      | with_reducible refine r_seq ?_
      | with_reducible refine r_next ?_
      | with_reducible refine r_block ?_
      | with_reducible refine r_seq_exit ?_
      | with_reducible refine r_seq_ret ?_
      | with_reducible refine r_blk_n ?_
      | with_reducible refine r_blk_ret ?_
      | with_reducible refine r_blk_hit ?_
      | with_reducible refine r_blk_miss rfl ?_
      | with_reducible refine r_skip ?_
      | with_reducible refine r_exit ?_
      | with_reducible refine r_ret ?_
      | with_reducible refine r_rq_exit ?_
      | with_reducible refine r_rq_ret ?_
      | ((with_reducible apply r_regA); (focus (simp only [List.append_eq, List.cons_append, List.nil_append] <;> rfl)); (focus (first | exact Nat.le_of_ble_eq_true rfl | (simp only [List.length_cons, List.length_nil]; omega))))
      | ((with_reducible refine r_reg (List.toList_toArray) ?_ ?_); focus (first | exact Nat.le_of_ble_eq_true rfl | (simp only [List.length_cons, List.length_nil]; omega)))
      | ((with_reducible apply r_drawL); (focus kernel_rfl); (focus kernel_rfl); (focus (first | exact Nat.le_of_ble_eq_true rfl | (simp only [List.length_cons, List.length_nil]; omega))))
      | ((with_reducible apply r_end); focus (simp only [Nat.add_assoc, Nat.reduceAdd, Nat.zero_add] <;> rfl))
      | ((with_reducible (first | apply r_move | apply r_assign)); (focus (simp only [Tget_set, Nat.reduceEqDiff, ↓reduceIte, ht0, ht5, ht6] <;> rfl)); (focus (exact Nat.le_of_ble_eq_true rfl)))
      | ((with_reducible apply r_condT); (focus (simp only [Tget_set, ↓reduceIte] <;> rfl)))
      | ((with_reducible (first | apply r_any | apply r_cond)); focus (simp only [↓reduceIte, wantedA_eq, gBool_t, gBool_f, Bool.not_true, clsOf, clsCall, Fr.ev, evs, ofV, ofA, ofS, put_mk, pureOp, readOp, pBin, binA, intOp_lss, intOp_gtr, pPick, List.getElem?_cons_zero, List.getElem?_cons_succ, Nat.reduceLT, Nat.reduceEqDiff, callTo_s, heavyCall, target, List.append_nil, binA, stepOp, stHeavy, stV_mk, stepAny, wantedA_none, rCall, rLen, Tget_set, lt_f (Nat.lt_irrefl LL.length), ls_t hc, rLen1_L2 Tryz.underlying22 hA] <;> rfl))
      | (with_reducible rw [ifQ_t])
      | (with_reducible rw [ifQ_f])
      | (with_reducible refine ifQ_intro ?_ ?_ <;> intro hb))
      refine r_callQ (f := 5) (by simp only [wantedA_none] <;> rfl) (by simp only [callOuts, ku_fn, callTo_s, target, Fr.ev, evs, callTo_s, target, List.append_nil] <;> rfl) ?_ ?_
      · exact live5
      · rintro o rfl
        refine ⟨_, by simp only [put_mk, Nat.reduceLT, ↓reduceIte] <;> rfl, ?_⟩
        repeat' (first
        | with_reducible refine r_seq ?_
        | with_reducible refine r_next ?_
        | with_reducible refine r_block ?_
        | with_reducible refine r_seq_exit ?_
        | with_reducible refine r_seq_ret ?_
        | with_reducible refine r_blk_n ?_
        | with_reducible refine r_blk_ret ?_
        | with_reducible refine r_blk_hit ?_
        | with_reducible refine r_blk_miss rfl ?_
        | with_reducible refine r_skip ?_
        | with_reducible refine r_exit ?_
        | with_reducible refine r_ret ?_
        | with_reducible refine r_rq_exit ?_
        | with_reducible refine r_rq_ret ?_
        | ((with_reducible apply r_regA); (focus (simp only [List.append_eq, List.cons_append, List.nil_append] <;> rfl)); (focus (first | exact Nat.le_of_ble_eq_true rfl | (simp only [List.length_cons, List.length_nil]; omega))))
        | ((with_reducible refine r_reg (List.toList_toArray) ?_ ?_); focus (first | exact Nat.le_of_ble_eq_true rfl | (simp only [List.length_cons, List.length_nil]; omega)))
        | ((with_reducible apply r_drawL); (focus kernel_rfl); (focus kernel_rfl); (focus (first | exact Nat.le_of_ble_eq_true rfl | (simp only [List.length_cons, List.length_nil]; omega))))
        | ((with_reducible apply r_end); focus (simp only [Nat.add_assoc, Nat.reduceAdd, Nat.zero_add] <;> rfl))
        | ((with_reducible (first | apply r_move | apply r_assign)); (focus (simp only [Tget_set, ↓reduceIte] <;> rfl)); (focus (exact Nat.le_of_ble_eq_true rfl)))
        | ((with_reducible apply r_condT); (focus (simp only [Tget_set, T.get_n, T.get_e, Nat.reduceEqDiff, Nat.reduceDiv, Nat.reduceMod, Nat.reduceSub, ↓reduceIte, if_true, if_false, ht0, ht1, ht5, ht6] <;> rfl)))
        | ((with_reducible (first | apply r_any | apply r_cond)); focus (simp only [↓reduceIte, wantedA_eq, gBool_t, gBool_f, Bool.not_true, Bool.not_false, Bool.not_not, clsOf, clsCall, newBlk, allocOp, ev_tmp, Fr.ev, evs, evParts, ofV, ofA, ofS, ofSs, ofAs, nVar, AV.cells, rowOf_mk, put_mk, put_none, upd_mk, withH_mk, keyOf_mk, ky_inj, pureOp, readOp, T.get_e, pFA, pFA1, pFA2, rLd, rdAB_row, oneCell_one, someAgg_s, hget_same, hget_hset_ite, pBin, binA, intOp_eql, intOp_neq, intOp_lss, intOp_leq, intOp_gtr, intOp_geq, pPick, List.length_cons, List.length_nil, List.getElem?_cons_zero, List.getElem?_cons_succ, List.drop_zero, List.drop_succ_cons, List.take_succ_cons, List.take_zero, Nat.zero_add, Nat.add_zero, Nat.reduceAdd, Nat.reduceLT, Nat.reduceLeDiff, Nat.reduceEqDiff, Nat.reduceMul, Nat.reduceSub, Nat.succ_eq_add_one, if_true, if_false, true_and, and_true, and_self, List.toList_toArray, Nat.add_eq, Nat.mul_eq, Nat.sub_eq, loadA_w, loadW_a, loadW_s, aSt_w, stOut_s, wrAB_row, ovr, List.set_cons_zero, List.set_cons_succ, allCell, isCell, pUn_not, callTo_s, heavyCall, target, actOp, pEx, List.nil_append, List.append_nil, pNil, pBuild, pBuild2, fieldsOk, buildParts, List.getElem?_nil, pMkF, binA, eqIn, eqGuardOk, pF, pF1, partA, beq_self_eq_true, bne_self_eq_false, decide_true, decide_false, Int.reduceBEq, Int.reduceBNe, Int.reduceLT, Int.reduceLE, Int.reduceEq, Int.reduceNeg, Int.reduceAdd, Int.reduceSub, Bool.and_true, Bool.true_and, Bool.and_false, Bool.false_and, stepOp, stHeavy, stV_mk, stB_mk, stO_mk, T.get_n, T.set_n, T.set_e, Nat.reduceDiv, Nat.reduceMod, ofNat_z, sz2, ag2, zr2, Tryz.underlying2, sz3, ag3, zr3, Tryz.underlying3, sz9, ag9, zr9, Tryz.underlying9, sz22, ag22, zr22, Tryz.underlying22, sz23, ag23, zr23, Tryz.underlying23, sz26, ag26, zr26, Tryz.underlying26, sz74, ag74, zr74, Tryz.underlying74, stepAny, wantedA_none, rCall, rLen, rLen1_str, rLen1_sl, lenA, Tget_set, natOf_c, ht0, ht1, ht5, ht6, lt_f (Nat.lt_irrefl LL.length), ls_t hc, rLen1_L2 Tryz.underlying22 hA] <;> rfl))
        | (with_reducible rw [ifQ_t])
        | (with_reducible rw [ifQ_f])
        | (with_reducible refine ifQ_intro ?_ ?_ <;> intro hb))
        subst hQ
        refine ret_back (by simp only [Tryz.results3, resultOf, resultsA, resultA, List.toList_toArray, Fr.ev, Tget_set, ↓reduceIte] <;> rfl) ?_
        exact ⟨_, rfl⟩
    · have hL3 : LL.length ≤ 300 := hi3
      have hM3 : ∀ l ∈ LL, l.length ≤ 100000 := fun l hl => by have := cnt_mem hl; omega
      have hmain := fun (H : Heap) (G : Nat) (hS : SameH h H) => calls78 (F := G) (hA.same hS) (by omega) hM3 q
      repeat' (first
      | with_reducible refine r_seq ?_
      | with_reducible refine r_next ?_
      | with_reducible refine r_block ?_
      | with_reducible refine r_seq_exit ?_
      | with_reducible refine r_seq_ret ?_
      | with_reducible refine r_blk_n ?_
      | with_reducible refine r_blk_ret ?_
      | with_reducible refine r_blk_hit ?_
      | with_reducible refine r_blk_miss rfl ?_
      | with_reducible refine r_skip ?_
      | with_reducible refine r_exit ?_
      | with_reducible refine r_ret ?_
      | with_reducible refine r_rq_exit ?_
      | with_reducible refine r_rq_ret ?_
      | ((with_reducible apply r_regA); (focus (simp only [List.append_eq, List.cons_append, List.nil_append] <;> rfl)); (focus (first | exact Nat.le_of_ble_eq_true rfl | (simp only [List.length_cons, List.length_nil]; omega))))
      | ((with_reducible refine r_reg (List.toList_toArray) ?_ ?_); focus (first | exact Nat.le_of_ble_eq_true rfl | (simp only [List.length_cons, List.length_nil]; omega)))
      | ((with_reducible apply r_drawL); (focus kernel_rfl); (focus kernel_rfl); (focus (first | exact Nat.le_of_ble_eq_true rfl | (simp only [List.length_cons, List.length_nil]; omega))))
      | ((with_reducible apply r_end); focus (simp only [Nat.add_assoc, Nat.reduceAdd, Nat.zero_add] <;> rfl))
      | ((with_reducible (first | apply r_move | apply r_assign)); (focus (simp only [Tget_set, Nat.reduceEqDiff, ↓reduceIte, ht0, ht1, ht5, ht6] <;> rfl)); (focus (exact Nat.le_of_ble_eq_true rfl)))
      | ((with_reducible apply r_condT); (focus (simp only [Tget_set, ↓reduceIte] <;> rfl)))
      | ((with_reducible (first | apply r_any | apply r_cond)); focus (simp only [↓reduceIte, wantedA_eq, gBool_t, gBool_f, Bool.not_false, clsOf, clsCall, Fr.ev, evs, ofV, ofA, ofS, put_mk, pureOp, readOp, pBin, binA, intOp_lss, intOp_gtr, pPick, List.getElem?_cons_zero, List.getElem?_cons_succ, Nat.reduceLT, Nat.reduceEqDiff, callTo_s, heavyCall, target, List.nil_append, List.append_nil, binA, stepOp, stHeavy, stV_mk, stepAny, wantedA_none, rCall, rLen, Tget_set, ht0, lt_f (Nat.lt_irrefl LL.length), ls_f hc, ls_f (show ¬ (300 : Int) < (LL.length : Int) by omega), rLen1_L2 Tryz.underlying22 hA] <;> rfl))
      | (with_reducible rw [ifQ_t])
      | (with_reducible rw [ifQ_f])
      | (with_reducible refine ifQ_intro ?_ ?_ <;> intro hb))
      refine r_callQ (f := 7) (by simp only [wantedA_none] <;> rfl) (by simp only [callOuts, ku_fn, callTo_s, target, ↓reduceIte, Fr.ev, evs, Nat.reduceEqDiff, callTo_s, target, List.nil_append, List.append_nil, Tget_set] <;> rfl) ?_ ?_
      · exact (hmain _ _ (SameH.refl h)).1
      · rintro o ⟨v1, h1, F1, rfl, hs1, hv1⟩
        refine ⟨_, by simp only [put_mk, Nat.reduceLT, ↓reduceIte] <;> rfl, ?_⟩
        repeat' (first
        | with_reducible refine r_seq ?_
        | with_reducible refine r_next ?_
        | with_reducible refine r_block ?_
        | with_reducible refine r_seq_exit ?_
        | with_reducible refine r_seq_ret ?_
        | with_reducible refine r_blk_n ?_
        | with_reducible refine r_blk_ret ?_
        | with_reducible refine r_blk_hit ?_
        | with_reducible refine r_blk_miss rfl ?_
        | with_reducible refine r_skip ?_
        | with_reducible refine r_exit ?_
        | with_reducible refine r_ret ?_
        | with_reducible refine r_rq_exit ?_
        | with_reducible refine r_rq_ret ?_
        | ((with_reducible apply r_regA); (focus (simp only [List.append_eq, List.cons_append, List.nil_append] <;> rfl)); (focus (first | exact Nat.le_of_ble_eq_true rfl | (simp only [List.length_cons, List.length_nil]; omega))))
        | ((with_reducible refine r_reg (List.toList_toArray) ?_ ?_); focus (first | exact Nat.le_of_ble_eq_true rfl | (simp only [List.length_cons, List.length_nil]; omega)))
        | ((with_reducible apply r_drawL); (focus kernel_rfl); (focus kernel_rfl); (focus (first | exact Nat.le_of_ble_eq_true rfl | (simp only [List.length_cons, List.length_nil]; omega))))
        | ((with_reducible apply r_end); focus (simp only [Nat.add_assoc, Nat.reduceAdd, Nat.zero_add] <;> rfl))
        | ((with_reducible (first | apply r_move | apply r_assign)); (focus (simp only [Tget_set, Nat.reduceEqDiff, ↓reduceIte, ht0, ht1] <;> rfl)); (focus (exact Nat.le_of_ble_eq_true rfl)))
        | ((with_reducible apply r_condT); (focus (simp only [Tget_set, T.get_n, T.get_e, Nat.reduceEqDiff, Nat.reduceDiv, Nat.reduceMod, Nat.reduceSub, ↓reduceIte, if_true, if_false, ht0, ht1, ht5, ht6] <;> rfl)))
        | ((with_reducible (first | apply r_any | apply r_cond)); focus (simp only [↓reduceIte, clsOf, clsCall, Fr.ev, evs, Nat.reduceEqDiff, callTo_s, heavyCall, target, List.nil_append, List.append_nil, stepOp, stHeavy, stepAny, wantedA_none, Tget_set] <;> rfl))
        | (with_reducible rw [ifQ_t])
        | (with_reducible rw [ifQ_f])
        | (with_reducible refine ifQ_intro ?_ ?_ <;> intro hb))
        refine r_callQ (f := 8) (by simp only [wantedA_none] <;> rfl) (by simp only [callOuts, ku_fn, callTo_s, target, ↓reduceIte, Fr.ev, evs, Nat.reduceEqDiff, callTo_s, target, List.nil_append, List.append_nil, Tget_set] <;> rfl) ?_ ?_
        · exact (hmain _ _ hs1).2
        · rintro o ⟨v2, h2, F2, rfl, hs2, hv2⟩
          refine ⟨_, by simp only [put_mk, Nat.reduceLT, ↓reduceIte] <;> rfl, ?_⟩
          repeat' (first
          | with_reducible refine r_seq ?_
          | with_reducible refine r_next ?_
          | with_reducible refine r_block ?_
          | with_reducible refine r_seq_exit ?_
          | with_reducible refine r_seq_ret ?_
          | with_reducible refine r_blk_n ?_
          | with_reducible refine r_blk_ret ?_
          | with_reducible refine r_blk_hit ?_
          | with_reducible refine r_blk_miss rfl ?_
          | with_reducible refine r_skip ?_
          | with_reducible refine r_exit ?_
          | with_reducible refine r_ret ?_
          | with_reducible refine r_rq_exit ?_
          | with_reducible refine r_rq_ret ?_
          | ((with_reducible apply r_regA); (focus (simp only [List.append_eq, List.cons_append, List.nil_append] <;> rfl)); (focus (first | exact Nat.le_of_ble_eq_true rfl | (simp only [List.length_cons, List.length_nil]; omega))))
          | ((with_reducible refine r_reg (List.toList_toArray) ?_ ?_); focus (first | exact Nat.le_of_ble_eq_true rfl | (simp only [List.length_cons, List.length_nil]; omega)))
          | ((with_reducible apply r_drawL); (focus kernel_rfl); (focus kernel_rfl); (focus (first | exact Nat.le_of_ble_eq_true rfl | (simp only [List.length_cons, List.length_nil]; omega))))
          | ((with_reducible apply r_end); focus (simp only [Nat.add_assoc, Nat.reduceAdd, Nat.zero_add] <;> rfl))
          | ((with_reducible (first | apply r_move | apply r_assign)); (focus (simp only [Tget_set, T.get_n, T.get_e, Nat.reduceEqDiff, Nat.reduceDiv, Nat.reduceMod, Nat.reduceSub, ↓reduceIte, if_true, if_false, ht0, ht1, ht5, ht6] <;> rfl)); (focus (exact Nat.le_of_ble_eq_true rfl)))
          | ((with_reducible apply r_condT); (focus (simp only [Tget_set, T.get_n, T.get_e, Nat.reduceEqDiff, Nat.reduceDiv, Nat.reduceMod, Nat.reduceSub, ↓reduceIte, if_true, if_false, ht0, ht1, ht5, ht6] <;> rfl)))
          | ((with_reducible (first | apply r_any | apply r_cond)); focus (simp only [↓reduceIte, clsOf, clsCall, Fr.ev, evs, Nat.reduceEqDiff, callTo_s, heavyCall, target, List.nil_append, List.append_nil, stepOp, stHeavy, stepAny, wantedA_none, Tget_set] <;> rfl))
          | (with_reducible rw [ifQ_t])
          | (with_reducible rw [ifQ_f])
          | (with_reducible refine ifQ_intro ?_ ?_ <;> intro hb))
          refine r_callQ (f := 6) (by simp only [wantedA_none] <;> rfl) (by simp only [callOuts, ku_fn, callTo_s, target, ↓reduceIte, Fr.ev, evs, Nat.reduceEqDiff, callTo_s, target, List.nil_append, List.append_nil, Tget_set] <;> rfl) ?_ ?_
          · exact nums6 _ _ _ _ _ (hv1.same hs2) hv2
          · rintro o rfl
            refine ⟨_, by simp only [put_mk, Nat.reduceLT, ↓reduceIte] <;> rfl, ?_⟩
            repeat' (first
            | with_reducible refine r_seq ?_
            | with_reducible refine r_next ?_
            | with_reducible refine r_block ?_
            | with_reducible refine r_seq_exit ?_
            | with_reducible refine r_seq_ret ?_
            | with_reducible refine r_blk_n ?_
            | with_reducible refine r_blk_ret ?_
            | with_reducible refine r_blk_hit ?_
            | with_reducible refine r_blk_miss rfl ?_
            | with_reducible refine r_skip ?_
            | with_reducible refine r_exit ?_
            | with_reducible refine r_ret ?_
            | with_reducible refine r_rq_exit ?_
            | with_reducible refine r_rq_ret ?_
            | ((with_reducible apply r_regA); (focus (simp only [List.append_eq, List.cons_append, List.nil_append] <;> rfl)); (focus (first | exact Nat.le_of_ble_eq_true rfl | (simp only [List.length_cons, List.length_nil]; omega))))
            | ((with_reducible refine r_reg (List.toList_toArray) ?_ ?_); focus (first | exact Nat.le_of_ble_eq_true rfl | (simp only [List.length_cons, List.length_nil]; omega)))
            | ((with_reducible apply r_drawL); (focus kernel_rfl); (focus kernel_rfl); (focus (first | exact Nat.le_of_ble_eq_true rfl | (simp only [List.length_cons, List.length_nil]; omega))))
            | ((with_reducible apply r_end); focus (simp only [Nat.add_assoc, Nat.reduceAdd, Nat.zero_add] <;> rfl))
            | ((with_reducible (first | apply r_move | apply r_assign)); (focus (simp only [Tget_set, ↓reduceIte] <;> rfl)); (focus (exact Nat.le_of_ble_eq_true rfl)))
            | ((with_reducible apply r_condT); (focus (simp only [Tget_set, T.get_n, T.get_e, Nat.reduceEqDiff, Nat.reduceDiv, Nat.reduceMod, Nat.reduceSub, ↓reduceIte, if_true, if_false, ht0, ht1, ht5, ht6] <;> rfl)))
            | ((with_reducible (first | apply r_any | apply r_cond)); focus (simp only [↓reduceIte, wantedA_eq, gBool_t, clsOf, clsCall, Fr.ev, evs, List.getElem?_cons_zero, List.getElem?_cons_succ, callTo_s, heavyCall, target, List.append_nil, stepOp, stHeavy, stepAny, Tget_set] <;> rfl))
            | (with_reducible rw [ifQ_t])
            | (with_reducible rw [ifQ_f])
            | (with_reducible refine ifQ_intro ?_ ?_ <;> intro hb))
            refine r_callQ (f := 5) (by simp only [↓reduceIte, wantedA_eq, gBool_t, List.getElem?_cons_zero, List.getElem?_cons_succ, Tget_set] <;> rfl) (by simp only [callOuts, ku_fn, callTo_s, target, Fr.ev, evs, callTo_s, target, List.append_nil] <;> rfl) ?_ ?_
            · exact live5
            · rintro o rfl
              refine ⟨_, by simp only [put_mk, Nat.reduceLT, ↓reduceIte] <;> rfl, ?_⟩
              repeat' (first
              | with_reducible refine r_seq ?_
              | with_reducible refine r_next ?_
              | with_reducible refine r_block ?_
              | with_reducible refine r_seq_exit ?_
              | with_reducible refine r_seq_ret ?_
              | with_reducible refine r_blk_n ?_
              | with_reducible refine r_blk_ret ?_
              | with_reducible refine r_blk_hit ?_
              | with_reducible refine r_blk_miss rfl ?_
              | with_reducible refine r_skip ?_
              | with_reducible refine r_exit ?_
              | with_reducible refine r_ret ?_
              | with_reducible refine r_rq_exit ?_
              | with_reducible refine r_rq_ret ?_
              | ((with_reducible apply r_regA); (focus (simp only [List.append_eq, List.cons_append, List.nil_append] <;> rfl)); (focus (first | exact Nat.le_of_ble_eq_true rfl | (simp only [List.length_cons, List.length_nil]; omega))))
              | ((with_reducible refine r_reg (List.toList_toArray) ?_ ?_); focus (first | exact Nat.le_of_ble_eq_true rfl | (simp only [List.length_cons, List.length_nil]; omega)))
              | ((with_reducible apply r_drawL); (focus kernel_rfl); (focus kernel_rfl); (focus (first | exact Nat.le_of_ble_eq_true rfl | (simp only [List.length_cons, List.length_nil]; omega))))
              | ((with_reducible apply r_end); focus (simp only [Nat.add_assoc, Nat.reduceAdd, Nat.zero_add] <;> rfl))
              | ((with_reducible (first | apply r_move | apply r_assign)); (focus (simp only [Tget_set, ↓reduceIte] <;> rfl)); (focus (exact Nat.le_of_ble_eq_true rfl)))
              | ((with_reducible apply r_condT); (focus (simp only [Tget_set, T.get_n, T.get_e, Nat.reduceEqDiff, Nat.reduceDiv, Nat.reduceMod, Nat.reduceSub, ↓reduceIte, if_true, if_false, ht0, ht1, ht5, ht6] <;> rfl)))
              | ((with_reducible (first | apply r_any | apply r_cond)); focus (simp only [↓reduceIte, clsOf, Fr.ev, put_mk, pureOp, pPick, Nat.reduceLT, Nat.reduceEqDiff, stepOp, stV_mk, stepAny, wantedA_none, Tget_set] <;> rfl))
              | (with_reducible rw [ifQ_t])
              | (with_reducible rw [ifQ_f])
              | (with_reducible refine ifQ_intro ?_ ?_ <;> intro hb))
              subst hQ
              refine ret_back (by simp only [Tryz.results3, resultOf, resultsA, resultA, List.toList_toArray, Fr.ev, Tget_set, ↓reduceIte] <;> rfl) ?_
              exact ⟨_, rfl⟩

end Go.Proofs.YtgjddbcnnelgpaaGreatDoor
