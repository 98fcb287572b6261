/- A part of the proof of the law SerialBehind. CONDITIONS: those that each theorem names. -/
import Derived.Test.YtgjddbcnnelgpaaGreatDoorLL
import Derived.Test.YtgjddbcnnelgpaaGreatDoorRFast
import Derived.Test.YtgjddbcnnelgpaaGreatDoorS19Types
namespace Go.Proofs.YtgjddbcnnelgpaaGreatDoor
open Go Go.Ai
set_option maxRecDepth 100000

theorem by4 : bytesT Tryz.prog 4 = some 1 := by kernel_rfl
theorem by2 : bytesT Tryz.prog 2 = some 8 := by kernel_rfl
theorem zo2 : zeroOk Tryz.prog 2 1 8 = true := by kernel_rfl
theorem sndQ_wf {f : FuncId} {args : List AV} {s : St} {Q : Out → Prop} (h : Wf s → SndQ Tryz.prog [] f args s Q) : SndQ Tryz.prog [] f args s Q := by
  by_cases hw : Wf s
  · exact h hw
  · exact ⟨[], snd_wf fun h1 => absurd h1 hw, by simp⟩
set_option maxHeartbeats 8000000 in
theorem ref8 (h : Heap) (F : Nat) (a : AV) (LL : List (List (List AV))) (hA : Lst2 h ksC a LL) (hN : LL.length ≤ 1000) (hM : ∀ l ∈ LL, l.length ≤ 100000) (s : Nat) (hs : s < LL.length)
    {Q : Out → Prop} (hQf : ∀ h1 lc l, Wf ⟨h, F⟩ → SameH h h1 → IL h1 F lc l (behind (LL.map seqs) s) → Q (.val l ⟨h1, F + 1⟩)) : SndQ Tryz.prog [] 8 [a, .int .i64 (s : Int)] ⟨h, F⟩ Q := by
  have mxl : maxLen = 9223372036854775807 := by decide
  refine sndQ_wf fun hw => ?_
  have hMl : (LL.map seqs).length = LL.length := by simp
  refine sndQ_body (K := K0) kok0 mixed noNum (m := 200001) Tryz.func8 ?_
  generalize hQ : retQ _ _ _ _ _ _ = Q0
  refine body_go (c := Tryz.f8.body.getD .skip) (n := 77) rfl rfl (by simp only [↓reduceIte, T.setList, T.set_e, T.set_n, Nat.reduceDiv, Nat.reduceMod, Nat.reduceEqDiff, Nat.zero_add] <;> rfl) ?_
  simp only [Tryz.f8, Option.getD_some]
  repeat' (first
  | with_reducible refine r_seq ?_
  | with_reducible refine r_next ?_
  | with_reducible refine r_block ?_
  | with_reducible refine r_seq_exit ?_
  | with_reducible refine r_seq_ret ?_
  | with_reducible refine r_blk_n ?_
  | with_reducible refine r_blk_ret ?_
  | with_reducible refine r_blk_hit ?_
  | with_reducible refine r_blk_miss rfl ?_
  | with_reducible refine r_skip ?_
  | with_reducible refine r_exit ?_
  | with_reducible refine r_ret ?_
  | with_reducible refine r_rq_exit ?_
  | with_reducible refine r_rq_ret ?_
  | ((with_reducible apply r_regA); (focus (simp only [List.append_eq, List.cons_append, List.nil_append] <;> rfl)); (focus (first | exact Nat.le_of_ble_eq_true rfl | (simp only [List.length_cons, List.length_nil]; omega))))
  | ((with_reducible refine r_reg (List.toList_toArray) ?_ ?_); focus (first | exact Nat.le_of_ble_eq_true rfl | (simp only [List.length_cons, List.length_nil]; omega)))
  | ((with_reducible apply r_drawL); (focus kernel_rfl); (focus kernel_rfl); (focus (first | exact Nat.le_of_ble_eq_true rfl | (simp only [List.length_cons, List.length_nil]; omega))))
  | ((with_reducible apply r_end); focus (simp only [Nat.reduceAdd, Nat.zero_add] <;> rfl))
  | ((with_reducible (first | apply r_move | apply r_assign)); (focus (simp only [Tget_set, T.get_n, Nat.reduceEqDiff, Nat.reduceDiv, Nat.reduceMod, Nat.reduceSub, ↓reduceIte] <;> rfl)); (focus (exact Nat.le_of_ble_eq_true rfl)))
  | ((with_reducible apply r_condT); (focus (simp only [T.get_n, Nat.reduceEqDiff, Nat.reduceDiv, Nat.reduceMod, Nat.reduceSub, ↓reduceIte] <;> rfl)))
  | ((with_reducible (first | apply r_any | apply r_cond)); focus (simp only [↓reduceIte, wantedA_eq, gBool_f, Bool.not_false, clsOf, clsCall, newBlk, allocOp, Fr.ev, ofV, ofA, ofS, AV.cells, put_mk, put_none, upd_mk, keyOf_mk, pureOp, readOp, hget_same, pBin, binA, intOp_lss, intOp_geq, pPick, List.length_cons, List.length_nil, List.getElem?_cons_zero, List.getElem?_cons_succ, Nat.zero_add, Nat.reduceAdd, Nat.reduceLT, Nat.reduceEqDiff, Nat.reduceSub, aSt_w, stOut_s, actOp, binA, stepOp, stHeavy, stV_mk, stB_mk, stO_mk, T.get_n, T.set_n, T.set_e, Nat.reduceDiv, Nat.reduceMod, sz4, Tryz.underlying76, stepAny, wantedA_none, rCall, rLen, ls_f (show ¬ (s : Int) < 0 by omega), ge_f (show ¬ (LL.length : Int) ≤ (s : Int) by omega), rLen1_L2 Tryz.underlying22 hA, nMS_b sz4 by4 zr4 (show 1 * LL.length ≤ 1073741824 by omega) (show LL.length ≤ 1073741824 by omega), pIA_s Tryz.underlying76 sz4 hs, wr_b (show s < (List.replicate LL.length false).length by rw [List.length_replicate]; exact hs)] <;> rfl))
  | (with_reducible rw [ifQ_t])
  | (with_reducible rw [ifQ_f])
  | (with_reducible refine ifQ_intro ?_ ?_ <;> intro hb))
  refine r_loop (I := fun nn fr s1 => ∃ lc tt h1 i b, fr = ⟨F, lc, 77, tt, [], .no⟩ ∧ s1 = ⟨h1, F + 1⟩ ∧ i ≤ s + 1 ∧ i = nn ∧ 12 ≤ lc ∧ lc + nn * 1000000000 ≤ 100000000000000000000000000 ∧ tt.get 0 = some a ∧ tt.get 1 = some (.int .i64 (s : Int)) ∧ tt.get 5 = some (.slice (ky F 11) 0 0 LL.length (some LL.length)) ∧ tt.get 6 = some (.int .i64 ((i : Int) - 1)) ∧ SameH h h1 ∧ hget h1 (ky F 11) = some (bRow b) ∧ MI (LL.map seqs) s i b) (n := s + 1) ?_ ?_ ?_
  · omega
  · refine ⟨_, _, _, s + 1, _, rfl, rfl, Nat.le_refl _, rfl, by omega, by omega, (by first | (simp only [Tget_set, T.get_n, Nat.reduceEqDiff, ↓reduceIte] <;> rfl) | rfl), (by first | (simp only [Tget_set, T.get_n, Nat.reduceEqDiff, Nat.reduceDiv, Nat.reduceMod, ↓reduceIte] <;> rfl) | rfl), (by first | (simp only [Tget_set, T.get_n, Nat.reduceEqDiff, Nat.reduceDiv, Nat.reduceMod, Nat.reduceSub, ↓reduceIte] <;> rfl) | rfl), ?_, (by repeat (first | exact hS | exact SameH.refl _ | refine SameH.hset hw ?_ (ky_le _ _))), (by first | (simp only [hget_same] <;> rfl) | rfl), ?_⟩
    · have e : ((s + 1 : Nat) : Int) - 1 = (s : Int) := by omega
      rw [e]; exact (by first | (simp only [Tget_set, ↓reduceIte] <;> rfl) | rfl)
    · rw [← hMl]; exact MI.init (by rw [hMl]; exact hs)
  rintro nn fr s1 ⟨lc, tt, h1, i, b, rfl, rfl, hi, rfl, hl0, hlc, ht0, ht1, ht5, ht6, hS, hc, hI⟩
  rcases i with _ | j
  · have e : ((0 : Nat) : Int) - 1 = -1 := by omega
    rw [e] at ht6
    repeat' (first
    | with_reducible refine r_seq ?_
    | with_reducible refine r_next ?_
    | with_reducible refine r_block ?_
    | with_reducible refine r_seq_exit ?_
    | with_reducible refine r_seq_ret ?_
    | with_reducible refine r_blk_n ?_
    | with_reducible refine r_blk_ret ?_
    | with_reducible refine r_blk_hit ?_
    | with_reducible refine r_blk_miss rfl ?_
    | with_reducible refine r_skip ?_
    | with_reducible refine r_exit ?_
    | with_reducible refine r_ret ?_
    | with_reducible refine r_rq_exit ?_
    | with_reducible refine r_rq_ret ?_
    | ((with_reducible apply r_regA); (focus (simp only [List.append_eq, List.cons_append, List.nil_append] <;> rfl)); (focus (first | exact Nat.le_of_ble_eq_true rfl | (simp only [List.length_cons, List.length_nil]; omega))))
    | ((with_reducible refine r_reg (List.toList_toArray) ?_ ?_); focus (first | exact Nat.le_of_ble_eq_true rfl | (simp only [List.length_cons, List.length_nil]; omega)))
    | ((with_reducible apply r_drawL); (focus kernel_rfl); (focus kernel_rfl); (focus (first | exact Nat.le_of_ble_eq_true rfl | (simp only [List.length_cons, List.length_nil]; omega))))
    | ((with_reducible apply r_end); focus (simp only [Nat.add_assoc, Nat.reduceAdd, Nat.zero_add] <;> rfl))
    | ((with_reducible (first | apply r_move | apply r_assign)); (focus (simp only [ht6] <;> rfl)); (focus (exact Nat.le_of_ble_eq_true rfl)))
    | ((with_reducible apply r_condT); (focus (simp only [Tget_set, ↓reduceIte] <;> rfl)))
    | ((with_reducible (first | apply r_any | apply r_cond)); focus (simp only [↓reduceIte, clsOf, Fr.ev, ofV, ofA, ofS, put_mk, pureOp, pBin, binA, intOp_geq, Nat.reduceLT, binA, decide_false, Int.reduceLE, Int.reduceNeg, stepOp, stV_mk, stepAny, wantedA_none, Tget_set, ge_f (show ¬ (0 : Int) ≤ -1 by omega)] <;> rfl))
    | (with_reducible rw [ifQ_t])
    | (with_reducible rw [ifQ_f])
    | (with_reducible refine ifQ_intro ?_ ?_ <;> intro hb))
    refine r_loop (I := fun nn fr s1 => ∃ lc2 tt2 h2 i l, fr = ⟨F, lc2, 77, tt2, [], .no⟩ ∧ s1 = ⟨h2, F + 1⟩ ∧ i ≤ s ∧ nn = s - i ∧ 12 ≤ lc2 ∧ lc2 + nn * 1000 ≤ 200000000000000000000000000 ∧ tt2.get 1 = some (.int .i64 (s : Int)) ∧ tt2.get 5 = some (.slice (ky F 11) 0 0 LL.length (some LL.length)) ∧ tt2.get 9 = some l ∧ tt2.get 10 = some (.int .i64 (i : Int)) ∧ SameH h h2 ∧ hget h2 (ky F 11) = some (bRow b) ∧ IL h2 F lc2 l (readUp b i)) (n := s) ?_ ?_ ?_
    · omega
    · refine ⟨_, _, _, 0, _, rfl, rfl, Nat.zero_le _, (Nat.sub_zero _).symm, by omega, by omega, (by first | (simp only [Tget_set, Nat.reduceEqDiff, ↓reduceIte, ht1] <;> rfl) | rfl), (by first | (simp only [Tget_set, Nat.reduceEqDiff, ↓reduceIte, ht5] <;> rfl) | rfl), (by first | (simp only [Tget_set, Nat.reduceEqDiff, ↓reduceIte] <;> rfl) | rfl), (by first | (simp only [Tget_set, ↓reduceIte] <;> rfl) | rfl), hS, hc, by rw [readUp_zero]; exact IL.nil⟩
    rintro nn fr s1 ⟨lc2, tt2, h2, i, l, rfl, rfl, hi2, rfl, hl2, hlc2, u1, u5, u9, u10, hS2, hc2, hI2⟩
    by_cases his : i < s
    · have hiN : i < LL.length := by omega
      obtain ⟨v, hv⟩ : ∃ v, b[i]? = some v := ⟨b[i]'(by rw [hI.len, hMl]; omega), by simp⟩
      have e3 := rd_b hv
      have hzl : (readUp b i).length ≤ 1000 := Nat.le_trans (readUp_len _ _) (by omega)
      have ap := fun (key : Nat) => app_ints2 (P := Tryz.prog) (key := key) (f := F + 1) (a := 7) (b := 2) (x := (i : Int)) (cap := some 1) Tryz.underlying26 sz2 by2 zo2 (by omega) hI2 hzl
      have hrs := readUp_succ b i
      rw [hv] at hrs
      cases v with
      | true =>
        repeat' (first
        | with_reducible refine r_seq ?_
        | with_reducible refine r_next ?_
        | with_reducible refine r_block ?_
        | with_reducible refine r_seq_exit ?_
        | with_reducible refine r_seq_ret ?_
        | with_reducible refine r_blk_n ?_
        | with_reducible refine r_blk_ret ?_
        | with_reducible refine r_blk_hit ?_
        | with_reducible refine r_blk_miss rfl ?_
        | with_reducible refine r_skip ?_
        | with_reducible refine r_exit ?_
        | with_reducible refine r_ret ?_
        | with_reducible refine r_rq_exit ?_
        | with_reducible refine r_rq_ret ?_
        | ((with_reducible apply r_regA); (focus (simp only [List.append_eq, List.cons_append, List.nil_append] <;> rfl)); (focus (first | exact Nat.le_of_ble_eq_true rfl | (simp only [List.length_cons, List.length_nil]; omega))))
        | ((with_reducible refine r_reg (List.toList_toArray) ?_ ?_); focus (first | exact Nat.le_of_ble_eq_true rfl | (simp only [List.length_cons, List.length_nil]; omega)))
        | ((with_reducible apply r_drawL); (focus kernel_rfl); (focus kernel_rfl); (focus (first | exact Nat.le_of_ble_eq_true rfl | (simp only [List.length_cons, List.length_nil]; omega))))
        | ((with_reducible apply r_end); focus (simp only [Nat.add_assoc, Nat.reduceAdd, Nat.zero_add] <;> rfl))
        | ((with_reducible (first | apply r_move | apply r_assign)); (focus (simp only [Tget_set, Nat.reduceEqDiff, ↓reduceIte, u1, u5, u9, u10] <;> rfl)); (focus (exact Nat.le_of_ble_eq_true rfl)))
        | ((with_reducible apply r_condT); (focus (simp only [Tget_set, ↓reduceIte] <;> rfl)))
        | ((with_reducible (first | apply r_any | apply r_cond)); focus (simp only [↓reduceIte, clsOf, clsCall, newBlk, allocOp, Fr.ev, evParts, ofV, ofA, ofS, put_mk, upd_mk, keyOf_mk, pureOp, readOp, rLd, oneCell_one, pBin, binA, intOp_lss, Nat.zero_add, Nat.reduceAdd, Nat.reduceLT, Nat.reduceEqDiff, loadA_w, loadW_s, heavyCall, binA, stepOp, stHeavy, stV_mk, stB_mk, stO_mk, sz4, ag4, Tryz.underlying26, stepAny, wantedA_none, Tget_set, hc2, lt_t his, pIA_s Tryz.underlying76 sz4 hiN, e3, nBS_int sz2 zr2, aBuiltin, aApp, aApp2, ap, outOf, intOp_add (inR_succ his (show s ≤ maxLen by omega))] <;> rfl))
        | (with_reducible rw [ifQ_t])
        | (with_reducible rw [ifQ_f])
        | (with_reducible refine ifQ_intro ?_ ?_ <;> intro hb))
        rw [if_pos rfl] at hrs
        refine r_rq_n (k := s - (i + 1)) (by omega) ⟨_, _, _, i + 1, _, rfl, rfl, by omega, rfl, by omega, by omega, (by first | (simp only [Tget_set, Nat.reduceEqDiff, ↓reduceIte, u1] <;> rfl) | rfl), (by first | (simp only [Tget_set, Nat.reduceEqDiff, ↓reduceIte, u5] <;> rfl) | rfl), (by first | (simp only [Tget_set, Nat.reduceEqDiff, ↓reduceIte] <;> rfl) | rfl), (by first | (simp only [Tget_set, ↓reduceIte] <;> rfl) | rfl), (by repeat (first | exact hS2 | refine SameH.hset hw ?_ (ky_le _ _) | refine same_kill2 hw hI2 ?_)), ?_, IL.new' (by omega) hrs⟩
        rw [hget_hset_ite, if_neg (by rw [ky_inj]; omega), kill_get hI2 hc2, hget_hset_ite, if_neg (by rw [ky_inj]; omega)]
        exact hc2
      | false =>
        repeat' (first
        | with_reducible refine r_seq ?_
        | with_reducible refine r_next ?_
        | with_reducible refine r_block ?_
        | with_reducible refine r_seq_exit ?_
        | with_reducible refine r_seq_ret ?_
        | with_reducible refine r_blk_n ?_
        | with_reducible refine r_blk_ret ?_
        | with_reducible refine r_blk_hit ?_
        | with_reducible refine r_blk_miss rfl ?_
        | with_reducible refine r_skip ?_
        | with_reducible refine r_exit ?_
        | with_reducible refine r_ret ?_
        | with_reducible refine r_rq_exit ?_
        | with_reducible refine r_rq_ret ?_
        | ((with_reducible apply r_regA); (focus (simp only [List.append_eq, List.cons_append, List.nil_append] <;> rfl)); (focus (first | exact Nat.le_of_ble_eq_true rfl | (simp only [List.length_cons, List.length_nil]; omega))))
        | ((with_reducible refine r_reg (List.toList_toArray) ?_ ?_); focus (first | exact Nat.le_of_ble_eq_true rfl | (simp only [List.length_cons, List.length_nil]; omega)))
        | ((with_reducible apply r_drawL); (focus kernel_rfl); (focus kernel_rfl); (focus (first | exact Nat.le_of_ble_eq_true rfl | (simp only [List.length_cons, List.length_nil]; omega))))
        | ((with_reducible apply r_end); focus (simp only [Nat.add_assoc, Nat.reduceAdd, Nat.zero_add] <;> rfl))
        | ((with_reducible (first | apply r_move | apply r_assign)); (focus (simp only [Tget_set, Nat.reduceEqDiff, ↓reduceIte, u1, u5, u10] <;> rfl)); (focus (exact Nat.le_of_ble_eq_true rfl)))
        | ((with_reducible apply r_condT); (focus (simp only [Tget_set, ↓reduceIte] <;> rfl)))
        | ((with_reducible (first | apply r_any | apply r_cond)); focus (simp only [↓reduceIte, clsOf, Fr.ev, ofV, ofA, ofS, put_mk, pureOp, readOp, rLd, oneCell_one, pBin, binA, intOp_lss, Nat.zero_add, Nat.reduceLT, Nat.reduceEqDiff, loadA_w, loadW_s, binA, stepOp, stV_mk, sz4, ag4, stepAny, wantedA_none, Tget_set, hc2, lt_t his, pIA_s Tryz.underlying76 sz4 hiN, e3, intOp_add (inR_succ his (show s ≤ maxLen by omega))] <;> rfl))
        | (with_reducible rw [ifQ_t])
        | (with_reducible rw [ifQ_f])
        | (with_reducible refine ifQ_intro ?_ ?_ <;> intro hb))
        rw [if_neg (by simp)] at hrs
        exact r_rq_n (k := s - (i + 1)) (by omega) ⟨_, _, _, i + 1, _, rfl, rfl, by omega, rfl, by omega, by omega, (by first | (simp only [Tget_set, Nat.reduceEqDiff, ↓reduceIte, u1] <;> rfl) | rfl), (by first | (simp only [Tget_set, Nat.reduceEqDiff, ↓reduceIte, u5] <;> rfl) | rfl), (by first | (simp only [Tget_set, Nat.reduceEqDiff, ↓reduceIte, u9] <;> rfl) | rfl), (by first | (simp only [Tget_set, ↓reduceIte] <;> rfl) | rfl), hS2, hc2, by rw [hrs]; exact hI2.up (by omega)⟩
    · have hend : i = s := by omega
      rw [hend, hI.read] at hI2
      repeat' (first
      | with_reducible refine r_seq ?_
      | with_reducible refine r_next ?_
      | with_reducible refine r_block ?_
      | with_reducible refine r_seq_exit ?_
      | with_reducible refine r_seq_ret ?_
      | with_reducible refine r_blk_n ?_
      | with_reducible refine r_blk_ret ?_
      | with_reducible refine r_blk_hit ?_
      | with_reducible refine r_blk_miss rfl ?_
      | with_reducible refine r_skip ?_
      | with_reducible refine r_exit ?_
      | with_reducible refine r_ret ?_
      | with_reducible refine r_rq_exit ?_
      | with_reducible refine r_rq_ret ?_
      | ((with_reducible apply r_regA); (focus (simp only [List.append_eq, List.cons_append, List.nil_append] <;> rfl)); (focus (first | exact Nat.le_of_ble_eq_true rfl | (simp only [List.length_cons, List.length_nil]; omega))))
      | ((with_reducible refine r_reg (List.toList_toArray) ?_ ?_); focus (first | exact Nat.le_of_ble_eq_true rfl | (simp only [List.length_cons, List.length_nil]; omega)))
      | ((with_reducible apply r_drawL); (focus kernel_rfl); (focus kernel_rfl); (focus (first | exact Nat.le_of_ble_eq_true rfl | (simp only [List.length_cons, List.length_nil]; omega))))
      | ((with_reducible apply r_end); focus (simp only [Nat.add_assoc, Nat.reduceAdd, Nat.zero_add] <;> rfl))
      | ((with_reducible (first | apply r_move | apply r_assign)); (focus (simp only [Tget_set, Nat.reduceEqDiff, ↓reduceIte, u1, u9, u10] <;> rfl)); (focus (exact Nat.le_of_ble_eq_true rfl)))
      | ((with_reducible apply r_condT); (focus (simp only [Tget_set, ↓reduceIte] <;> rfl)))
      | ((with_reducible (first | apply r_any | apply r_cond)); focus (simp only [↓reduceIte, clsOf, Fr.ev, put_mk, pureOp, pBin, binA, intOp_lss, Nat.reduceLT, Nat.reduceEqDiff, binA, stepOp, stV_mk, stepAny, wantedA_none, Tget_set, lt_f his] <;> rfl))
      | (with_reducible rw [ifQ_t])
      | (with_reducible rw [ifQ_f])
      | (with_reducible refine ifQ_intro ?_ ?_ <;> intro hb))
      subst hQ
      refine ret_back (by simp only [Tryz.results8, resultOf, resultsA, resultA, List.toList_toArray, Fr.ev, Tget_set, ↓reduceIte] <;> rfl) ?_
      exact hQf _ _ _ hw hS2 hI2
  · have e : ((j + 1 : Nat) : Int) - 1 = (j : Int) := by omega
    rw [e] at ht6
    obtain ⟨L, hL⟩ : ∃ L, LL[j]? = some L := ⟨LL[j]'(by omega), by simp⟩
    have hLm : (LL.map seqs)[j]? = some (seqs L) := by rw [List.getElem?_map, hL]; rfl
    have hLl : L.length ≤ 100000 := hM L (List.mem_of_getElem? hL)
    obtain ⟨v, hv⟩ : ∃ v, b[j]? = some v := ⟨b[j]'(by rw [hI.len, hMl]; omega), by simp⟩
    have hjN : j < LL.length := by omega
    have hstep := hI.step hLm hv
    obtain ⟨b0, o0, eo0, cap0, x, rfl, hb0, r0, hX⟩ := hA.at hw (SameH.refl h) hL
    have hRd := fun (h2 : Heap) (hS2 : SameH h h2) => hS2.rd r0
    repeat' (first
    | with_reducible refine r_seq ?_
    | with_reducible refine r_next ?_
    | with_reducible refine r_block ?_
    | with_reducible refine r_seq_exit ?_
    | with_reducible refine r_seq_ret ?_
    | with_reducible refine r_blk_n ?_
    | with_reducible refine r_blk_ret ?_
    | with_reducible refine r_blk_hit ?_
    | with_reducible refine r_blk_miss rfl ?_
    | with_reducible refine r_skip ?_
    | with_reducible refine r_exit ?_
    | with_reducible refine r_ret ?_
    | with_reducible refine r_rq_exit ?_
    | with_reducible refine r_rq_ret ?_
    | ((with_reducible apply r_regA); (focus (simp only [List.append_eq, List.cons_append, List.nil_append] <;> rfl)); (focus (first | exact Nat.le_of_ble_eq_true rfl | (simp only [List.length_cons, List.length_nil]; omega))))
    | ((with_reducible refine r_reg (List.toList_toArray) ?_ ?_); focus (first | exact Nat.le_of_ble_eq_true rfl | (simp only [List.length_cons, List.length_nil]; omega)))
    | ((with_reducible apply r_drawL); (focus kernel_rfl); (focus kernel_rfl); (focus (first | exact Nat.le_of_ble_eq_true rfl | (simp only [List.length_cons, List.length_nil]; omega))))
    | ((with_reducible apply r_end); focus (simp only [Nat.add_assoc, Nat.reduceAdd, Nat.zero_add] <;> rfl))
    | ((with_reducible (first | apply r_move | apply r_assign)); (focus (simp only [ht6] <;> rfl)); (focus (exact Nat.le_of_ble_eq_true rfl)))
    | ((with_reducible apply r_condT); (focus (simp only [Tget_set, ↓reduceIte] <;> rfl)))
    | ((with_reducible (first | apply r_any | apply r_cond)); focus (simp only [↓reduceIte, clsOf, Fr.ev, ofV, ofA, ofS, put_mk, pureOp, pBin, binA, intOp_geq, Nat.reduceLT, binA, stepOp, stV_mk, stepAny, wantedA_none, Tget_set, ge_t (show (0 : Int) ≤ (j : Int) by omega)] <;> rfl))
    | (with_reducible rw [ifQ_t])
    | (with_reducible rw [ifQ_f])
    | (with_reducible refine ifQ_intro ?_ ?_ <;> intro hb))
    refine r_loop (I := fun nn fr s1 => ∃ lc2 tt2 h2 k, fr = ⟨F, lc2, 77, tt2, [], .no⟩ ∧ s1 = ⟨h2, F + 1⟩ ∧ k ≤ L.length ∧ nn = L.length - k ∧ lc ≤ lc2 ∧ lc2 + nn * 1000 ≤ lc + 999000000 ∧ tt2.get 0 = some (.slice b0 o0 eo0 LL.length cap0) ∧ tt2.get 1 = some (.int .i64 (s : Int)) ∧ tt2.get 5 = some (.slice (ky F 11) 0 0 LL.length (some LL.length)) ∧ tt2.get 6 = some (.int .i64 (j : Int)) ∧ tt2.get 7 = some (.int .i64 (k : Int)) ∧ SameH h h2 ∧ hget h2 (ky F 11) = some (bRow (if v = true then ((seqs L).take k).foldl (bmark j) b else b))) (n := L.length) ?_ ?_ ?_
    · omega
    · refine ⟨_, _, _, 0, rfl, rfl, Nat.zero_le _, (Nat.sub_zero _).symm, by omega, by omega, (by first | (simp only [Tget_set, Nat.reduceEqDiff, ↓reduceIte, ht0] <;> rfl) | rfl), (by first | (simp only [Tget_set, Nat.reduceEqDiff, ↓reduceIte, ht1] <;> rfl) | rfl), (by first | (simp only [Tget_set, Nat.reduceEqDiff, ↓reduceIte, ht5] <;> rfl) | rfl), (by first | (simp only [Tget_set, Nat.reduceEqDiff, ↓reduceIte, ht6] <;> rfl) | rfl), (by first | (simp only [Tget_set, ↓reduceIte] <;> rfl) | rfl), hS, ?_⟩
      rw [hc]; cases v <;> rfl
    rintro nn fr s1 ⟨lc2, tt2, h2, k, rfl, rfl, hk, rfl, hl2, hlc2, u0, u1, u5, u6, u7, hS2, hc2⟩
    have r2 := hRd h2 hS2
    cases v with
    | false =>
      simp only [Bool.false_eq_true, if_false] at hc2 hstep
      have e3 := rd_b hv
      repeat' (first
      | with_reducible refine r_seq ?_
      | with_reducible refine r_next ?_
      | with_reducible refine r_block ?_
      | with_reducible refine r_seq_exit ?_
      | with_reducible refine r_seq_ret ?_
      | with_reducible refine r_blk_n ?_
      | with_reducible refine r_blk_ret ?_
      | with_reducible refine r_blk_hit ?_
      | with_reducible refine r_blk_miss rfl ?_
      | with_reducible refine r_skip ?_
      | with_reducible refine r_exit ?_
      | with_reducible refine r_ret ?_
      | with_reducible refine r_rq_exit ?_
      | with_reducible refine r_rq_ret ?_
      | ((with_reducible apply r_regA); (focus (simp only [List.append_eq, List.cons_append, List.nil_append] <;> rfl)); (focus (first | exact Nat.le_of_ble_eq_true rfl | (simp only [List.length_cons, List.length_nil]; omega))))
      | ((with_reducible refine r_reg (List.toList_toArray) ?_ ?_); focus (first | exact Nat.le_of_ble_eq_true rfl | (simp only [List.length_cons, List.length_nil]; omega)))
      | ((with_reducible apply r_drawL); (focus kernel_rfl); (focus kernel_rfl); (focus (first | exact Nat.le_of_ble_eq_true rfl | (simp only [List.length_cons, List.length_nil]; omega))))
      | ((with_reducible apply r_end); focus (simp only [Nat.add_assoc, Nat.reduceAdd, Nat.zero_add] <;> rfl))
      | ((with_reducible (first | apply r_move | apply r_assign)); (focus (simp only [Tget_set, Nat.reduceEqDiff, ↓reduceIte, u5, u6] <;> rfl)); (focus (exact Nat.le_of_ble_eq_true rfl)))
      | ((with_reducible apply r_condT); (focus (simp only [Tget_set, ↓reduceIte] <;> rfl)))
      | ((with_reducible (first | apply r_any | apply r_cond)); focus (simp only [↓reduceIte, wantedA_eq, gBool_t, clsOf, Fr.ev, ofV, ofA, ofS, put_mk, pureOp, readOp, rLd, oneCell_one, pBin, binA, pPick, List.getElem?_cons_zero, List.getElem?_cons_succ, Nat.zero_add, Nat.reduceLT, Nat.reduceEqDiff, loadA_w, loadW_s, binA, stepOp, stV_mk, sz4, ag4, stepAny, wantedA_none, Tget_set, hc2, pIA_s Tryz.underlying76 sz4 hjN, e3, intOp_sub (show inR ((j : Int) - 1) by unfold inR; omega)] <;> rfl))
      | (with_reducible rw [ifQ_t])
      | (with_reducible rw [ifQ_f])
      | (with_reducible refine ifQ_intro ?_ ?_ <;> intro hb))
      exact r_rq_n (k := j) (by omega) ⟨_, _, _, j, _, rfl, rfl, by omega, rfl, by omega, by omega, (by first | (simp only [Tget_set, Nat.reduceEqDiff, ↓reduceIte, u0] <;> rfl) | rfl), (by first | (simp only [Tget_set, Nat.reduceEqDiff, ↓reduceIte, u1] <;> rfl) | rfl), (by first | (simp only [Tget_set, Nat.reduceEqDiff, ↓reduceIte, u5] <;> rfl) | rfl), (by first | (simp only [Tget_set, ↓reduceIte] <;> rfl) | rfl), hS2, hc2, hstep⟩
    | true =>
      simp only [if_true] at hc2 hstep
      have e3 := rd_b (marks_at (l := seqs L) (k := k) hv)
      by_cases hkl : k < L.length
      · obtain ⟨b5, o5, eo5, cap5, sx, n, rfl, hb5, hn, r5, r6⟩ := cause_at hw hX hS2 hkl
        have hml : (((seqs L).take k).foldl (bmark j) b).length = LL.length := by rw [marks_len, hI.len, hMl]
        by_cases hcn : 0 ≤ n ∧ n < (j : Int)
        · obtain ⟨m, rfl⟩ := Int.eq_ofNat_of_zero_le hcn.1
          repeat' (first
          | with_reducible refine r_seq ?_
          | with_reducible refine r_next ?_
          | with_reducible refine r_block ?_
          | with_reducible refine r_seq_exit ?_
          | with_reducible refine r_seq_ret ?_
          | with_reducible refine r_blk_n ?_
          | with_reducible refine r_blk_ret ?_
          | with_reducible refine r_blk_hit ?_
          | with_reducible refine r_blk_miss rfl ?_
          | with_reducible refine r_skip ?_
          | with_reducible refine r_exit ?_
          | with_reducible refine r_ret ?_
          | with_reducible refine r_rq_exit ?_
          | with_reducible refine r_rq_ret ?_
          | ((with_reducible apply r_regA); (focus (simp only [List.append_eq, List.cons_append, List.nil_append] <;> rfl)); (focus (first | exact Nat.le_of_ble_eq_true rfl | (simp only [List.length_cons, List.length_nil]; omega))))
          | ((with_reducible refine r_reg (List.toList_toArray) ?_ ?_); focus (first | exact Nat.le_of_ble_eq_true rfl | (simp only [List.length_cons, List.length_nil]; omega)))
          | ((with_reducible apply r_drawL); (focus kernel_rfl); (focus kernel_rfl); (focus (first | exact Nat.le_of_ble_eq_true rfl | (simp only [List.length_cons, List.length_nil]; omega))))
          | ((with_reducible apply r_end); focus (simp only [Nat.add_assoc, Nat.reduceAdd, Nat.zero_add] <;> rfl))
          | ((with_reducible (first | apply r_move | apply r_assign)); (focus (simp only [Tget_set, Nat.reduceEqDiff, ↓reduceIte, u0, u5, u6, u7] <;> rfl)); (focus (exact Nat.le_of_ble_eq_true rfl)))
          | ((with_reducible apply r_condT); (focus (simp only [Tget_set, ↓reduceIte] <;> rfl)))
          | ((with_reducible (first | apply r_any | apply r_cond)); focus (simp only [↓reduceIte, wantedA_eq, gBool_t, clsOf, clsCall, Fr.ev, ofV, ofA, ofS, AV.cells, put_mk, put_none, pureOp, readOp, pFA, pFA1, pFA2, rLd, oneCell_one, pBin, binA, intOp_lss, intOp_geq, pPick, List.length_cons, List.length_nil, List.getElem?_cons_zero, List.getElem?_cons_succ, Nat.zero_add, Nat.reduceLT, Nat.reduceEqDiff, Nat.add_eq, loadA_w, loadW_s, aSt_w, stOut_s, actOp, binA, stepOp, stHeavy, stV_mk, stO_mk, sz2, ag2, sz4, ag4, sz23, ag23, Tryz.underlying23, Tryz.underlying74, stepAny, wantedA_none, rCall, rLen, rLen1_sl, lenA, Tget_set, u0, u6, u7, hc2, pIA_s Tryz.underlying76 sz4 hjN, e3, pIA_s Tryz.underlying22 sz23 hjN, r2, lt_t hkl, pIA_s Tryz.underlying23 sz74 hkl, r6, ge_t hcn.1, ls_t hcn.2, pIA_s Tryz.underlying76 sz4 (show m < LL.length by omega), wr_b (show m < (((seqs L).take k).foldl (bmark j) b).length by omega), intOp_add (inR_succ hkl (show L.length ≤ maxLen by omega))] <;> rfl))
          | (with_reducible rw [ifQ_t])
          | (with_reducible rw [ifQ_f])
          | (with_reducible refine ifQ_intro ?_ ?_ <;> intro hb))
          refine r_rq_n (k := L.length - (k + 1)) (by omega) ⟨_, _, _, k + 1, rfl, rfl, by omega, rfl, by omega, by omega, (by first | (simp only [Tget_set, Nat.reduceEqDiff, ↓reduceIte, u0] <;> rfl) | rfl), (by first | (simp only [Tget_set, Nat.reduceEqDiff, ↓reduceIte, u1] <;> rfl) | rfl), (by first | (simp only [Tget_set, Nat.reduceEqDiff, ↓reduceIte, u5] <;> rfl) | rfl), (by first | (simp only [Tget_set, Nat.reduceEqDiff, ↓reduceIte, u6] <;> rfl) | rfl), (by first | (simp only [Tget_set, ↓reduceIte] <;> rfl) | rfl), (by repeat (first | exact hS2 | exact SameH.refl _ | refine SameH.hset hw ?_ (ky_le _ _))), ?_⟩
          rw [hget_same, if_pos rfl, foldl_take hn, mark_hit (by omega)]
        · have hfold : ((seqs L).take (k + 1)).foldl (bmark j) b = ((seqs L).take k).foldl (bmark j) b := by rw [foldl_take hn, mark_miss hcn]
          by_cases hn0 : 0 ≤ n
          · repeat' (first
            | with_reducible refine r_seq ?_
            | with_reducible refine r_next ?_
            | with_reducible refine r_block ?_
            | with_reducible refine r_seq_exit ?_
            | with_reducible refine r_seq_ret ?_
            | with_reducible refine r_blk_n ?_
            | with_reducible refine r_blk_ret ?_
            | with_reducible refine r_blk_hit ?_
            | with_reducible refine r_blk_miss rfl ?_
            | with_reducible refine r_skip ?_
            | with_reducible refine r_exit ?_
            | with_reducible refine r_ret ?_
            | with_reducible refine r_rq_exit ?_
            | with_reducible refine r_rq_ret ?_
            | ((with_reducible apply r_regA); (focus (simp only [List.append_eq, List.cons_append, List.nil_append] <;> rfl)); (focus (first | exact Nat.le_of_ble_eq_true rfl | (simp only [List.length_cons, List.length_nil]; omega))))
            | ((with_reducible refine r_reg (List.toList_toArray) ?_ ?_); focus (first | exact Nat.le_of_ble_eq_true rfl | (simp only [List.length_cons, List.length_nil]; omega)))
            | ((with_reducible apply r_drawL); (focus kernel_rfl); (focus kernel_rfl); (focus (first | exact Nat.le_of_ble_eq_true rfl | (simp only [List.length_cons, List.length_nil]; omega))))
            | ((with_reducible apply r_end); focus (simp only [Nat.add_assoc, Nat.reduceAdd, Nat.zero_add] <;> rfl))
            | ((with_reducible (first | apply r_move | apply r_assign)); (focus (simp only [Tget_set, Nat.reduceEqDiff, ↓reduceIte, u0, u5, u6, u7] <;> rfl)); (focus (exact Nat.le_of_ble_eq_true rfl)))
            | ((with_reducible apply r_condT); (focus (simp only [Tget_set, ↓reduceIte] <;> rfl)))
            | ((with_reducible (first | apply r_any | apply r_cond)); focus (simp only [↓reduceIte, wantedA_eq, gBool_t, clsOf, clsCall, Fr.ev, ofV, ofA, ofS, put_mk, pureOp, readOp, pFA, pFA1, pFA2, rLd, oneCell_one, pBin, binA, intOp_lss, intOp_geq, pPick, List.getElem?_cons_zero, List.getElem?_cons_succ, Nat.zero_add, Nat.reduceLT, Nat.reduceEqDiff, Nat.add_eq, loadA_w, loadW_s, binA, stepOp, stV_mk, sz2, ag2, sz4, ag4, sz23, ag23, Tryz.underlying23, Tryz.underlying74, stepAny, wantedA_none, rCall, rLen, rLen1_sl, lenA, Tget_set, u0, u6, u7, hc2, pIA_s Tryz.underlying76 sz4 hjN, e3, pIA_s Tryz.underlying22 sz23 hjN, r2, lt_t hkl, pIA_s Tryz.underlying23 sz74 hkl, r6, ge_t hn0, ls_f (show ¬ n < (j : Int) from fun h => hcn ⟨hn0, h⟩), intOp_add (inR_succ hkl (show L.length ≤ maxLen by omega))] <;> rfl))
            | (with_reducible rw [ifQ_t])
            | (with_reducible rw [ifQ_f])
            | (with_reducible refine ifQ_intro ?_ ?_ <;> intro hb))
            refine r_rq_n (k := L.length - (k + 1)) (by omega) ⟨_, _, _, k + 1, rfl, rfl, by omega, rfl, by omega, by omega, (by first | (simp only [Tget_set, Nat.reduceEqDiff, ↓reduceIte, u0] <;> rfl) | rfl), (by first | (simp only [Tget_set, Nat.reduceEqDiff, ↓reduceIte, u1] <;> rfl) | rfl), (by first | (simp only [Tget_set, Nat.reduceEqDiff, ↓reduceIte, u5] <;> rfl) | rfl), (by first | (simp only [Tget_set, Nat.reduceEqDiff, ↓reduceIte, u6] <;> rfl) | rfl), (by first | (simp only [Tget_set, ↓reduceIte] <;> rfl) | rfl), hS2, ?_⟩
            rw [if_pos rfl, hfold]; exact hc2
          · repeat' (first
            | with_reducible refine r_seq ?_
            | with_reducible refine r_next ?_
            | with_reducible refine r_block ?_
            | with_reducible refine r_seq_exit ?_
            | with_reducible refine r_seq_ret ?_
            | with_reducible refine r_blk_n ?_
            | with_reducible refine r_blk_ret ?_
            | with_reducible refine r_blk_hit ?_
            | with_reducible refine r_blk_miss rfl ?_
            | with_reducible refine r_skip ?_
            | with_reducible refine r_exit ?_
            | with_reducible refine r_ret ?_
            | with_reducible refine r_rq_exit ?_
            | with_reducible refine r_rq_ret ?_
            | ((with_reducible apply r_regA); (focus (simp only [List.append_eq, List.cons_append, List.nil_append] <;> rfl)); (focus (first | exact Nat.le_of_ble_eq_true rfl | (simp only [List.length_cons, List.length_nil]; omega))))
            | ((with_reducible refine r_reg (List.toList_toArray) ?_ ?_); focus (first | exact Nat.le_of_ble_eq_true rfl | (simp only [List.length_cons, List.length_nil]; omega)))
            | ((with_reducible apply r_drawL); (focus kernel_rfl); (focus kernel_rfl); (focus (first | exact Nat.le_of_ble_eq_true rfl | (simp only [List.length_cons, List.length_nil]; omega))))
            | ((with_reducible apply r_end); focus (simp only [Nat.add_assoc, Nat.reduceAdd, Nat.zero_add] <;> rfl))
            | ((with_reducible (first | apply r_move | apply r_assign)); (focus (simp only [Tget_set, Nat.reduceEqDiff, ↓reduceIte, u0, u5, u6, u7] <;> rfl)); (focus (exact Nat.le_of_ble_eq_true rfl)))
            | ((with_reducible apply r_condT); (focus (simp only [Tget_set, ↓reduceIte] <;> rfl)))
            | ((with_reducible (first | apply r_any | apply r_cond)); focus (simp only [↓reduceIte, wantedA_eq, gBool_t, clsOf, clsCall, Fr.ev, ofV, ofA, ofS, put_mk, pureOp, readOp, pFA, pFA1, pFA2, rLd, oneCell_one, pBin, binA, intOp_lss, intOp_geq, pPick, List.getElem?_cons_zero, List.getElem?_cons_succ, Nat.zero_add, Nat.reduceLT, Nat.reduceEqDiff, Nat.add_eq, loadA_w, loadW_s, binA, stepOp, stV_mk, sz2, ag2, sz4, ag4, sz23, ag23, Tryz.underlying23, Tryz.underlying74, stepAny, wantedA_none, rCall, rLen, rLen1_sl, lenA, Tget_set, u0, u6, u7, hc2, pIA_s Tryz.underlying76 sz4 hjN, e3, pIA_s Tryz.underlying22 sz23 hjN, r2, lt_t hkl, pIA_s Tryz.underlying23 sz74 hkl, r6, ge_f hn0, intOp_add (inR_succ hkl (show L.length ≤ maxLen by omega))] <;> rfl))
            | (with_reducible rw [ifQ_t])
            | (with_reducible rw [ifQ_f])
            | (with_reducible refine ifQ_intro ?_ ?_ <;> intro hb))
            refine r_rq_n (k := L.length - (k + 1)) (by omega) ⟨_, _, _, k + 1, rfl, rfl, by omega, rfl, by omega, by omega, (by first | (simp only [Tget_set, Nat.reduceEqDiff, ↓reduceIte, u0] <;> rfl) | rfl), (by first | (simp only [Tget_set, Nat.reduceEqDiff, ↓reduceIte, u1] <;> rfl) | rfl), (by first | (simp only [Tget_set, Nat.reduceEqDiff, ↓reduceIte, u5] <;> rfl) | rfl), (by first | (simp only [Tget_set, Nat.reduceEqDiff, ↓reduceIte, u6] <;> rfl) | rfl), (by first | (simp only [Tget_set, ↓reduceIte] <;> rfl) | rfl), hS2, ?_⟩
            rw [if_pos rfl, hfold]; exact hc2
      · have hend : k = L.length := by omega
        repeat' (first
        | with_reducible refine r_seq ?_
        | with_reducible refine r_next ?_
        | with_reducible refine r_block ?_
        | with_reducible refine r_seq_exit ?_
        | with_reducible refine r_seq_ret ?_
        | with_reducible refine r_blk_n ?_
        | with_reducible refine r_blk_ret ?_
        | with_reducible refine r_blk_hit ?_
        | with_reducible refine r_blk_miss rfl ?_
        | with_reducible refine r_skip ?_
        | with_reducible refine r_exit ?_
        | with_reducible refine r_ret ?_
        | with_reducible refine r_rq_exit ?_
        | with_reducible refine r_rq_ret ?_
        | ((with_reducible apply r_regA); (focus (simp only [List.append_eq, List.cons_append, List.nil_append] <;> rfl)); (focus (first | exact Nat.le_of_ble_eq_true rfl | (simp only [List.length_cons, List.length_nil]; omega))))
        | ((with_reducible refine r_reg (List.toList_toArray) ?_ ?_); focus (first | exact Nat.le_of_ble_eq_true rfl | (simp only [List.length_cons, List.length_nil]; omega)))
        | ((with_reducible apply r_drawL); (focus kernel_rfl); (focus kernel_rfl); (focus (first | exact Nat.le_of_ble_eq_true rfl | (simp only [List.length_cons, List.length_nil]; omega))))
        | ((with_reducible apply r_end); focus (simp only [Nat.add_assoc, Nat.reduceAdd, Nat.zero_add] <;> rfl))
        | ((with_reducible (first | apply r_move | apply r_assign)); (focus (simp only [Tget_set, Nat.reduceEqDiff, ↓reduceIte, u5, u6] <;> rfl)); (focus (exact Nat.le_of_ble_eq_true rfl)))
        | ((with_reducible apply r_condT); (focus (simp only [Tget_set, ↓reduceIte] <;> rfl)))
        | ((with_reducible (first | apply r_any | apply r_cond)); focus (simp only [↓reduceIte, wantedA_eq, gBool_t, clsOf, clsCall, Fr.ev, ofV, ofA, ofS, put_mk, pureOp, readOp, rLd, oneCell_one, pBin, binA, intOp_lss, pPick, List.getElem?_cons_zero, List.getElem?_cons_succ, Nat.zero_add, Nat.reduceLT, Nat.reduceEqDiff, loadA_w, loadW_s, binA, stepOp, stV_mk, sz4, ag4, sz23, ag23, stepAny, wantedA_none, rCall, rLen, Tget_set, u0, u6, u7, hc2, pIA_s Tryz.underlying76 sz4 hjN, e3, pIA_s Tryz.underlying22 sz23 hjN, r2, rLen1_L Tryz.underlying23 hX, lt_f hkl, intOp_sub (show inR ((j : Int) - 1) by unfold inR; omega)] <;> rfl))
        | (with_reducible rw [ifQ_t])
        | (with_reducible rw [ifQ_f])
        | (with_reducible refine ifQ_intro ?_ ?_ <;> intro hb))
        refine r_rq_n (k := j) (by omega) ⟨_, _, _, j, _, rfl, rfl, by omega, rfl, by omega, by omega, (by first | (simp only [Tget_set, Nat.reduceEqDiff, ↓reduceIte, u0] <;> rfl) | rfl), (by first | (simp only [Tget_set, Nat.reduceEqDiff, ↓reduceIte, u1] <;> rfl) | rfl), (by first | (simp only [Tget_set, Nat.reduceEqDiff, ↓reduceIte, u5] <;> rfl) | rfl), (by first | (simp only [Tget_set, ↓reduceIte] <;> rfl) | rfl), hS2, hc2, ?_⟩
        rw [hend, List.take_of_length_le (by simp [seqs])]; exact hstep

end Go.Proofs.YtgjddbcnnelgpaaGreatDoor
