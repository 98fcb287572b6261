/- A part of the proof of the law SerialTexts. CONDITIONS: those that each theorem names. -/
import Derived.Lib.LaidTab
import Derived.Test.YtlbjmpbgnbpcoaaGreatDoorEngineA
import Derived.Test.YtlbjmpbgnbpcoaaGreatDoorEngineB
import Derived.Test.YtlbjmpbgnbpcoaaGreatDoorEngineC
import Derived.Test.YtlbjmpbgnbpcoaaGreatDoorEngineD
import Derived.Test.YtlbjmpbgnbpcoaaGreatDoorEngineE
import Derived.Test.YtlbjmpbgnbpcoaaGreatDoorPartA
import Derived.Test.YtlbjmpbgnbpcoaaGreatDoorSTTypes
import Derived.Test.YtlbjmpbgnbpcoaaGreatDoorPartB
import Derived.Test.YtlbjmpbgnbpcoaaGreatDoorSTLay
import Derived.Test.YtlbjmpbgnbpcoaaGreatDoorPartC
import Derived.Test.YtlbjmpbgnbpcoaaGreatDoorPartD
import Derived.Test.YtlbjmpbgnbpcoaaGreatDoorPartE
import Derived.Test.YtlbjmpbgnbpcoaaGreatDoorSTLive
namespace Go.Proofs.YtlbjmpbgnbpcoaaGreatDoor
open Go Go.Ai
set_option maxRecDepth 100000

theorem k_live {S : FuncId → List AV → St → Out → Prop} {h : Heap} {F : Nat} : CallF.fn (KT S) 5 [] ⟨h, F⟩ = some [.val (.bool true) ⟨h, F⟩] := by
  obtain ⟨_, hb⟩ := body5
  exact kt_fn rfl (snd_glob (snd_true x2_ok mixed noNum run5 Tryz.func5 hb ⟨h, F⟩))
def cntY (Y : List (List (List AV))) (i : Nat) : Nat := ((Y.take i).map List.length).sum
theorem cntY_succ {Y : List (List (List AV))} {i : Nat} {l : List (List AV)} (h : Y[i]? = some l) : cntY Y (i + 1) = cntY Y i + l.length := by
  unfold cntY
  rw [List.take_add_one, h]
  simp
theorem sum_memY : ∀ {l : List Nat} {x : Nat}, x ∈ l → x ≤ l.sum
  | y :: l, x, h => by
    rw [List.sum_cons]
    rcases List.mem_cons.1 h with rfl | h
    · omega
    · have := sum_memY h; omega
theorem cntY_mem {Y : List (List (List AV))} {l : List (List AV)} (h : l ∈ Y) : l.length ≤ cntY Y Y.length := by
  unfold cntY
  rw [List.take_length]
  exact sum_memY (List.mem_map_of_mem (f := List.length) h)
theorem cntY_le {Y : List (List (List AV))} (hM : ∀ l ∈ Y, l.length ≤ 2000000) : ∀ i, cntY Y i ≤ i * 2000000
  | 0 => by simp [cntY]
  | i + 1 => by
    have ih := cntY_le hM i
    cases hl : Y[i]? with
    | none =>
      have hn := List.getElem?_eq_none_iff.1 hl
      have : cntY Y (i + 1) = cntY Y i := by unfold cntY; rw [List.take_of_length_le hn, List.take_of_length_le (by omega)]
      omega
    | some l =>
      rw [cntY_succ hl]
      have := hM l (List.mem_of_getElem? hl)
      omega
theorem str_ne (w : List UInt8) : strOp .neq w w = some (.bool false) := by simp [strOp]
set_option maxHeartbeats 8000000 in
theorem law3 (h : Heap) (F : Nat) (a b : AV) (z : Int) (X X2 : List (List AV)) (Y Y2 : List (List (List AV))) (hA : RowN h ksR 4 ksV a X Y) (hB : RowN h ksR 4 ksV b X2 Y2) (hX : X.length ≤ 2000000) (hY : ∀ l ∈ Y, l.length ≤ 2000000) :
    SndQ Tryz.prog GL 3 [a, b, .int .i64 z] ⟨h, F⟩ (fun o => ∃ s', o = .val (.bool true) s') := by
  have mxl : maxLen = 9223372036854775807 := by decide
  refine sndQ_wf fun hw => ?_
  have lA := fun (h2 : Heap) => rLen1_L (h2 := h2) Tryz.underlying22 hA.1
  have hYl := hA.len
  refine sndQ_body (K := (KT S0)) kt_ok mixed noNum (m := 1001) Tryz.func3 ?_
  generalize hQ : retQ _ _ _ _ _ _ = Q0
  refine body_go (c := Tryz.f3.body.getD .skip) (n := 81) rfl rfl (by simp only [↓reduceIte, T.setList, T.set_e, T.set_n, Nat.reduceDiv, Nat.reduceMod, Nat.reduceEqDiff, Nat.reduceSub, Nat.reduceAdd, Nat.zero_add] <;> rfl) ?_
  simp only [Tryz.f3, Option.getD_some]
  repeat' (first
  | with_reducible refine r_seq ?_
  | with_reducible refine r_next ?_
  | with_reducible refine r_block ?_
  | with_reducible refine r_seq_exit ?_
  | with_reducible refine r_seq_ret ?_
  | with_reducible refine r_blk_n ?_
  | with_reducible refine r_blk_ret ?_
  | with_reducible refine r_blk_hit ?_
  | with_reducible refine r_blk_miss rfl ?_
  | with_reducible refine r_skip ?_
  | with_reducible refine r_exit ?_
  | with_reducible refine r_ret ?_
  | with_reducible refine r_rq_exit ?_
  | with_reducible refine r_rq_ret ?_
  | ((with_reducible apply r_regA); (focus (simp only [List.append_eq, List.cons_append, List.nil_append] <;> rfl)); (focus (first | exact Nat.le_of_ble_eq_true rfl | (simp only [List.length_cons, List.length_nil]; omega))))
  | ((with_reducible refine r_reg (List.toList_toArray) ?_ ?_); focus (first | exact Nat.le_of_ble_eq_true rfl | (simp only [List.length_cons, List.length_nil]; omega)))
  | ((with_reducible apply r_drawL); (focus kernel_rfl); (focus kernel_rfl); (focus (first | exact Nat.le_of_ble_eq_true rfl | (simp only [List.length_cons, List.length_nil]; omega))))
  | ((with_reducible apply r_end); focus (simp only [Nat.reduceAdd, Nat.zero_add] <;> rfl))
  | ((with_reducible (first | apply r_move | apply r_assign)); (focus (simp only [Tget_set, T.get_n, T.get_e, Nat.reduceEqDiff, Nat.reduceDiv, Nat.reduceMod, Nat.reduceSub, ↓reduceIte, if_true, if_false] <;> rfl)); (focus (exact Nat.le_of_ble_eq_true rfl)))
  | ((with_reducible apply r_condT); (focus (simp only [Tget_set, T.get_n, T.get_e, Nat.reduceEqDiff, Nat.reduceDiv, Nat.reduceMod, Nat.reduceSub, ↓reduceIte, if_true, if_false] <;> rfl)))
  | ((with_reducible (first | apply r_any | apply r_cond)); focus (simp only [↓reduceIte, clsOf, Fr.ev, ofV, ofA, ofS, put_mk, pureOp, Nat.reduceLT, Nat.reduceEqDiff, Nat.reduceSub, stepOp, stV_mk, T.set_n, T.set_e, Nat.reduceDiv, Nat.reduceMod, stepAny, wantedA_none] <;> rfl))
  | (with_reducible rw [ifQ_t])
  | (with_reducible rw [ifQ_f])
  | (with_reducible refine ifQ_intro ?_ ?_ <;> intro hb))
  refine r_loop (I := fun nn fr s1 => ∃ lc tt i, fr = ⟨F, lc, 81, tt, [], .no⟩ ∧ s1 = ⟨h, F + 1⟩ ∧ i ≤ X.length ∧ i ≤ 300 ∧ nn = 300 - i ∧ lc + nn * 1000 ≤ 100000000000000000000 ∧ tt.get 0 = some a ∧ tt.get 1 = some b ∧ tt.get 2 = some (.int .i64 z) ∧ tt.get 7 = some (.int .i64 (cntY Y i : Int)) ∧ tt.get 8 = some (.int .i64 (i : Int))) (n := 300) ?_ ?_ ?_
  · omega
  · exact ⟨_, _, 0, rfl, rfl, Nat.zero_le _, Nat.zero_le _, rfl, by omega, (by first | (simp only [T.get_n, ↓reduceIte] <;> rfl) | rfl), (by first | (simp only [T.get_n, Nat.reduceEqDiff, Nat.reduceDiv, Nat.reduceMod, ↓reduceIte] <;> rfl) | rfl), (by first | (simp only [T.get_n, Nat.reduceEqDiff, Nat.reduceDiv, Nat.reduceMod, Nat.reduceSub, ↓reduceIte] <;> rfl) | rfl), (by first | (simp only [T.get_n, Nat.reduceEqDiff, Nat.reduceDiv, Nat.reduceMod, ↓reduceIte] <;> rfl) | rfl), (by first | (simp only [T.get_n, Nat.reduceEqDiff, Nat.reduceDiv, Nat.reduceMod, Nat.reduceSub, ↓reduceIte] <;> rfl) | rfl)⟩
  rintro nn fr s1 ⟨lc, tt, i, rfl, rfl, hi, hi3, rfl, hlc, u0, u1, u2, u7, u8⟩
  have hc1 := cntY_le hY i
  by_cases hil : i < X.length
  · by_cases h300 : i < 300
    · obtain ⟨b1, o1, eo1, cap1, q, k, c, p, v, l, rfl, hb1, hx, hy, _, _, _, _, hl, _, r2⟩ := res_at hw hA (SameH.refl h) hil
      have hll := hY l (List.mem_of_getElem? hy)
      have lV := fun (h2 : Heap) => rLen1_L (h2 := h2) Tryz.underlying23 hl
      have hadd : intOp Tryz.prog .add 3 .i64 .i64 (cntY Y i : Int) (l.length : Int) = some (.int .i64 (cntY Y (i + 1) : Int)) := by
        rw [intOp_add (by unfold inR; omega), cntY_succ hy]; rfl
      repeat' (first
      | with_reducible refine r_seq ?_
      | with_reducible refine r_next ?_
      | with_reducible refine r_block ?_
      | with_reducible refine r_seq_exit ?_
      | with_reducible refine r_seq_ret ?_
      | with_reducible refine r_blk_n ?_
      | with_reducible refine r_blk_ret ?_
      | with_reducible refine r_blk_hit ?_
      | with_reducible refine r_blk_miss rfl ?_
      | with_reducible refine r_skip ?_
      | with_reducible refine r_exit ?_
      | with_reducible refine r_ret ?_
      | with_reducible refine r_rq_exit ?_
      | with_reducible refine r_rq_ret ?_
      | ((with_reducible apply r_regA); (focus (simp only [List.append_eq, List.cons_append, List.nil_append] <;> rfl)); (focus (first | exact Nat.le_of_ble_eq_true rfl | (simp only [List.length_cons, List.length_nil]; omega))))
      | ((with_reducible refine r_reg (List.toList_toArray) ?_ ?_); focus (first | exact Nat.le_of_ble_eq_true rfl | (simp only [List.length_cons, List.length_nil]; omega)))
      | ((with_reducible apply r_drawL); (focus kernel_rfl); (focus kernel_rfl); (focus (first | exact Nat.le_of_ble_eq_true rfl | (simp only [List.length_cons, List.length_nil]; omega))))
      | ((with_reducible apply r_end); focus (simp only [Nat.add_assoc, Nat.reduceAdd, Nat.zero_add] <;> rfl))
      | ((with_reducible (first | apply r_move | apply r_assign)); (focus (simp only [Tget_set, Nat.reduceEqDiff, ↓reduceIte, u0, u7, u8] <;> rfl)); (focus (exact Nat.le_of_ble_eq_true rfl)))
      | ((with_reducible apply r_condT); (focus (simp only [Tget_set, ↓reduceIte] <;> rfl)))
      | ((with_reducible (first | apply r_any | apply r_cond)); focus (simp only [↓reduceIte, wantedA_eq, gBool_t, clsOf, clsCall, Fr.ev, ofV, ofA, ofS, put_mk, pureOp, readOp, pFA, pFA1, pFA2, rLd, oneCell_one, pBin, binA, intOp_lss, pPick, List.getElem?_cons_zero, List.getElem?_cons_succ, Nat.reduceLT, Nat.reduceEqDiff, Nat.add_eq, loadA_w, loadW_s, binA, stepOp, stV_mk, sz23, ag23, Tryz.underlying25, stepAny, wantedA_none, rCall, rLen, Tget_set, u8, lA, lt_t hil, ls_t (show (i : Int) < 300 by omega), pIA_s Tryz.underlying22 sz25 hil, r2, lV, hadd, intOp_add (show inR ((i : Int) + 1) by unfold inR; omega)] <;> rfl))
      | (with_reducible rw [ifQ_t])
      | (with_reducible rw [ifQ_f])
      | (with_reducible refine ifQ_intro ?_ ?_ <;> intro hb))
      exact r_rq_n (k := 300 - (i + 1)) (by omega) ⟨_, _, i + 1, rfl, rfl, by omega, by omega, rfl, by omega, (by first | (simp only [Tget_set, Nat.reduceEqDiff, ↓reduceIte, u0] <;> rfl) | rfl), (by first | (simp only [Tget_set, Nat.reduceEqDiff, ↓reduceIte, u1] <;> rfl) | rfl), (by first | (simp only [Tget_set, Nat.reduceEqDiff, ↓reduceIte, u2] <;> rfl) | rfl), (by first | (simp only [Tget_set, Nat.reduceEqDiff, ↓reduceIte] <;> rfl) | rfl), (by first | (simp only [Tget_set, ↓reduceIte] <;> rfl) | rfl)⟩
    · by_cases hc : (2000 : Int) < (cntY Y i : Int)
      · repeat' (first
        | with_reducible refine r_seq ?_
        | with_reducible refine r_next ?_
        | with_reducible refine r_block ?_
        | with_reducible refine r_seq_exit ?_
        | with_reducible refine r_seq_ret ?_
        | with_reducible refine r_blk_n ?_
        | with_reducible refine r_blk_ret ?_
        | with_reducible refine r_blk_hit ?_
        | with_reducible refine r_blk_miss rfl ?_
        | with_reducible refine r_skip ?_
        | with_reducible refine r_exit ?_
        | with_reducible refine r_ret ?_
        | with_reducible refine r_rq_exit ?_
        | with_reducible refine r_rq_ret ?_
        | ((with_reducible apply r_regA); (focus (simp only [List.append_eq, List.cons_append, List.nil_append] <;> rfl)); (focus (first | exact Nat.le_of_ble_eq_true rfl | (simp only [List.length_cons, List.length_nil]; omega))))
        | ((with_reducible refine r_reg (List.toList_toArray) ?_ ?_); focus (first | exact Nat.le_of_ble_eq_true rfl | (simp only [List.length_cons, List.length_nil]; omega)))
        | ((with_reducible apply r_drawL); (focus kernel_rfl); (focus kernel_rfl); (focus (first | exact Nat.le_of_ble_eq_true rfl | (simp only [List.length_cons, List.length_nil]; omega))))
        | ((with_reducible apply r_end); focus (simp only [Nat.add_assoc, Nat.reduceAdd, Nat.zero_add] <;> rfl))
        | ((with_reducible (first | apply r_move | apply r_assign)); (focus (simp only [Tget_set, Nat.reduceEqDiff, ↓reduceIte, u0, u7, u8] <;> rfl)); (focus (exact Nat.le_of_ble_eq_true rfl)))
        | ((with_reducible apply r_condT); (focus (simp only [Tget_set, ↓reduceIte] <;> rfl)))
        | ((with_reducible (first | apply r_any | apply r_cond)); focus (simp only [↓reduceIte, wantedA_eq, gBool_t, gBool_f, Bool.not_true, clsOf, clsCall, Fr.ev, evs, ofV, ofA, ofS, put_mk, pureOp, readOp, pBin, binA, intOp_lss, intOp_gtr, pPick, List.getElem?_cons_zero, List.getElem?_cons_succ, Nat.reduceLT, Nat.reduceEqDiff, callTo_s, heavyCall, target, List.append_nil, binA, stepOp, stHeavy, stV_mk, stO_mk, stepAny, wantedA_none, rCall, rLen, Tget_set, u8, k_live, lt_t hil, ls_f (show ¬ (i : Int) < 300 by omega), ls_t hc, lA] <;> rfl))
        | (with_reducible rw [ifQ_t])
        | (with_reducible rw [ifQ_f])
        | (with_reducible refine ifQ_intro ?_ ?_ <;> intro hb))
        subst hQ
        refine ret_back (by simp only [Tryz.results3, resultOf, resultsA, resultA, List.toList_toArray, Fr.ev, Tget_set, ↓reduceIte] <;> rfl) ?_
        exact ⟨_, rfl⟩
      · repeat' (first
        | with_reducible refine r_seq ?_
        | with_reducible refine r_next ?_
        | with_reducible refine r_block ?_
        | with_reducible refine r_seq_exit ?_
        | with_reducible refine r_seq_ret ?_
        | with_reducible refine r_blk_n ?_
        | with_reducible refine r_blk_ret ?_
        | with_reducible refine r_blk_hit ?_
        | with_reducible refine r_blk_miss rfl ?_
        | with_reducible refine r_skip ?_
        | with_reducible refine r_exit ?_
        | with_reducible refine r_ret ?_
        | with_reducible refine r_rq_exit ?_
        | with_reducible refine r_rq_ret ?_
        | ((with_reducible apply r_regA); (focus (simp only [List.append_eq, List.cons_append, List.nil_append] <;> rfl)); (focus (first | exact Nat.le_of_ble_eq_true rfl | (simp only [List.length_cons, List.length_nil]; omega))))
        | ((with_reducible refine r_reg (List.toList_toArray) ?_ ?_); focus (first | exact Nat.le_of_ble_eq_true rfl | (simp only [List.length_cons, List.length_nil]; omega)))
        | ((with_reducible apply r_drawL); (focus kernel_rfl); (focus kernel_rfl); (focus (first | exact Nat.le_of_ble_eq_true rfl | (simp only [List.length_cons, List.length_nil]; omega))))
        | ((with_reducible apply r_end); focus (simp only [Nat.add_assoc, Nat.reduceAdd, Nat.zero_add] <;> rfl))
        | ((with_reducible (first | apply r_move | apply r_assign)); (focus (simp only [Tget_set, Nat.reduceEqDiff, ↓reduceIte, u0, u7, u8] <;> rfl)); (focus (exact Nat.le_of_ble_eq_true rfl)))
        | ((with_reducible apply r_condT); (focus (simp only [Tget_set, ↓reduceIte] <;> rfl)))
        | ((with_reducible (first | apply r_any | apply r_cond)); focus (simp only [↓reduceIte, wantedA_eq, gBool_t, gBool_f, Bool.not_false, clsOf, clsCall, Fr.ev, evs, ofV, ofA, ofS, put_mk, pureOp, readOp, pBin, binA, intOp_lss, intOp_gtr, pPick, List.getElem?_cons_zero, List.getElem?_cons_succ, Nat.reduceLT, Nat.reduceEqDiff, callTo_s, heavyCall, target, List.append_nil, binA, stepOp, stHeavy, stV_mk, stO_mk, stepAny, wantedA_none, rCall, rLen, Tget_set, u0, u8, k_live, lt_t hil, ls_f (show ¬ (i : Int) < 300 by omega), ls_f hc, ls_t (show (200 : Int) < (X.length : Int) by omega), lA] <;> rfl))
        | (with_reducible rw [ifQ_t])
        | (with_reducible rw [ifQ_f])
        | (with_reducible refine ifQ_intro ?_ ?_ <;> intro hb))
        subst hQ
        refine ret_back (by simp only [Tryz.results3, resultOf, resultsA, resultA, List.toList_toArray, Fr.ev, Tget_set, ↓reduceIte] <;> rfl) ?_
        exact ⟨_, rfl⟩
  · have hend : i = X.length := by omega
    subst hend
    by_cases hc : (2000 : Int) < (cntY Y X.length : Int)
    · repeat' (first
      | with_reducible refine r_seq ?_
      | with_reducible refine r_next ?_
      | with_reducible refine r_block ?_
      | with_reducible refine r_seq_exit ?_
      | with_reducible refine r_seq_ret ?_
      | with_reducible refine r_blk_n ?_
      | with_reducible refine r_blk_ret ?_
      | with_reducible refine r_blk_hit ?_
      | with_reducible refine r_blk_miss rfl ?_
      | with_reducible refine r_skip ?_
      | with_reducible refine r_exit ?_
      | with_reducible refine r_ret ?_
      | with_reducible refine r_rq_exit ?_
      | with_reducible refine r_rq_ret ?_
      | ((with_reducible apply r_regA); (focus (simp only [List.append_eq, List.cons_append, List.nil_append] <;> rfl)); (focus (first | exact Nat.le_of_ble_eq_true rfl | (simp only [List.length_cons, List.length_nil]; omega))))
      | ((with_reducible refine r_reg (List.toList_toArray) ?_ ?_); focus (first | exact Nat.le_of_ble_eq_true rfl | (simp only [List.length_cons, List.length_nil]; omega)))
      | ((with_reducible apply r_drawL); (focus kernel_rfl); (focus kernel_rfl); (focus (first | exact Nat.le_of_ble_eq_true rfl | (simp only [List.length_cons, List.length_nil]; omega))))
      | ((with_reducible apply r_end); focus (simp only [Nat.add_assoc, Nat.reduceAdd, Nat.zero_add] <;> rfl))
      | ((with_reducible (first | apply r_move | apply r_assign)); (focus (simp only [Tget_set, Nat.reduceEqDiff, ↓reduceIte, u0, u7, u8] <;> rfl)); (focus (exact Nat.le_of_ble_eq_true rfl)))
      | ((with_reducible apply r_condT); (focus (simp only [Tget_set, ↓reduceIte] <;> rfl)))
      | ((with_reducible (first | apply r_any | apply r_cond)); focus (simp only [↓reduceIte, wantedA_eq, gBool_t, gBool_f, Bool.not_true, clsOf, clsCall, Fr.ev, evs, ofV, ofA, ofS, put_mk, pureOp, readOp, pBin, binA, intOp_lss, intOp_gtr, pPick, List.getElem?_cons_zero, List.getElem?_cons_succ, Nat.reduceLT, Nat.reduceEqDiff, callTo_s, heavyCall, target, List.append_nil, binA, stepOp, stHeavy, stV_mk, stO_mk, stepAny, wantedA_none, rCall, rLen, Tget_set, k_live, lt_f (Nat.lt_irrefl X.length), ls_t hc, lA] <;> rfl))
      | (with_reducible rw [ifQ_t])
      | (with_reducible rw [ifQ_f])
      | (with_reducible refine ifQ_intro ?_ ?_ <;> intro hb))
      subst hQ
      refine ret_back (by simp only [Tryz.results3, resultOf, resultsA, resultA, List.toList_toArray, Fr.ev, Tget_set, ↓reduceIte] <;> rfl) ?_
      exact ⟨_, rfl⟩
    by_cases h200 : (200 : Int) < (X.length : Int)
    · repeat' (first
      | with_reducible refine r_seq ?_
      | with_reducible refine r_next ?_
      | with_reducible refine r_block ?_
      | with_reducible refine r_seq_exit ?_
      | with_reducible refine r_seq_ret ?_
      | with_reducible refine r_blk_n ?_
      | with_reducible refine r_blk_ret ?_
      | with_reducible refine r_blk_hit ?_
      | with_reducible refine r_blk_miss rfl ?_
      | with_reducible refine r_skip ?_
      | with_reducible refine r_exit ?_
      | with_reducible refine r_ret ?_
      | with_reducible refine r_rq_exit ?_
      | with_reducible refine r_rq_ret ?_
      | ((with_reducible apply r_regA); (focus (simp only [List.append_eq, List.cons_append, List.nil_append] <;> rfl)); (focus (first | exact Nat.le_of_ble_eq_true rfl | (simp only [List.length_cons, List.length_nil]; omega))))
      | ((with_reducible refine r_reg (List.toList_toArray) ?_ ?_); focus (first | exact Nat.le_of_ble_eq_true rfl | (simp only [List.length_cons, List.length_nil]; omega)))
      | ((with_reducible apply r_drawL); (focus kernel_rfl); (focus kernel_rfl); (focus (first | exact Nat.le_of_ble_eq_true rfl | (simp only [List.length_cons, List.length_nil]; omega))))
      | ((with_reducible apply r_end); focus (simp only [Nat.add_assoc, Nat.reduceAdd, Nat.zero_add] <;> rfl))
      | ((with_reducible (first | apply r_move | apply r_assign)); (focus (simp only [Tget_set, Nat.reduceEqDiff, ↓reduceIte, u0, u7, u8] <;> rfl)); (focus (exact Nat.le_of_ble_eq_true rfl)))
      | ((with_reducible apply r_condT); (focus (simp only [Tget_set, ↓reduceIte] <;> rfl)))
      | ((with_reducible (first | apply r_any | apply r_cond)); focus (simp only [↓reduceIte, wantedA_eq, gBool_t, gBool_f, Bool.not_false, clsOf, clsCall, Fr.ev, evs, ofV, ofA, ofS, put_mk, pureOp, readOp, pBin, binA, intOp_lss, intOp_gtr, pPick, List.getElem?_cons_zero, List.getElem?_cons_succ, Nat.reduceLT, Nat.reduceEqDiff, callTo_s, heavyCall, target, List.append_nil, binA, stepOp, stHeavy, stV_mk, stO_mk, stepAny, wantedA_none, rCall, rLen, Tget_set, u0, k_live, lt_f (Nat.lt_irrefl X.length), ls_f hc, ls_t h200, lA] <;> rfl))
      | (with_reducible rw [ifQ_t])
      | (with_reducible rw [ifQ_f])
      | (with_reducible refine ifQ_intro ?_ ?_ <;> intro hb))
      subst hQ
      refine ret_back (by simp only [Tryz.results3, resultOf, resultsA, resultA, List.toList_toArray, Fr.ev, Tget_set, ↓reduceIte] <;> rfl) ?_
      exact ⟨_, rfl⟩
    have hX1 : X.length ≤ 1000 := by omega
    have hY1 : ∀ l ∈ Y, l.length ≤ 2000 := fun l hl => by have := cntY_mem hl; rw [hYl] at this; omega
    have hself := dec_t (resAll_self X Y)
    cases hd : dec (resAll X X2 Y Y2)
    all_goals
      repeat' (first
      | with_reducible refine r_seq ?_
      | with_reducible refine r_next ?_
      | with_reducible refine r_block ?_
      | with_reducible refine r_seq_exit ?_
      | with_reducible refine r_seq_ret ?_
      | with_reducible refine r_blk_n ?_
      | with_reducible refine r_blk_ret ?_
      | with_reducible refine r_blk_hit ?_
      | with_reducible refine r_blk_miss rfl ?_
      | with_reducible refine r_skip ?_
      | with_reducible refine r_exit ?_
      | with_reducible refine r_ret ?_
      | with_reducible refine r_rq_exit ?_
      | with_reducible refine r_rq_ret ?_
      | ((with_reducible apply r_regA); (focus (simp only [List.append_eq, List.cons_append, List.nil_append] <;> rfl)); (focus (first | exact Nat.le_of_ble_eq_true rfl | (simp only [List.length_cons, List.length_nil]; omega))))
      | ((with_reducible refine r_reg (List.toList_toArray) ?_ ?_); focus (first | exact Nat.le_of_ble_eq_true rfl | (simp only [List.length_cons, List.length_nil]; omega)))
      | ((with_reducible apply r_drawL); (focus kernel_rfl); (focus kernel_rfl); (focus (first | exact Nat.le_of_ble_eq_true rfl | (simp only [List.length_cons, List.length_nil]; omega))))
      | ((with_reducible apply r_end); focus (simp only [Nat.add_assoc, Nat.reduceAdd, Nat.zero_add] <;> rfl))
      | ((with_reducible (first | apply r_move | apply r_assign)); (focus (simp only [Tget_set, Nat.reduceEqDiff, ↓reduceIte, u0, u2, u7, u8] <;> rfl)); (focus (exact Nat.le_of_ble_eq_true rfl)))
      | ((with_reducible apply r_condT); (focus (simp only [Tget_set, ↓reduceIte] <;> rfl)))
      | ((with_reducible (first | apply r_any | apply r_cond)); focus (simp only [↓reduceIte, wantedA_eq, gBool_t, gBool_f, Bool.not_true, Bool.not_false, clsOf, clsCall, Fr.ev, evs, ofV, ofA, ofS, put_mk, pureOp, readOp, pBin, binA, intOp_lss, intOp_gtr, pPick, List.getElem?_cons_zero, List.getElem?_cons_succ, Nat.reduceLT, Nat.reduceEqDiff, pUn_not, callTo_s, heavyCall, target, List.nil_append, List.append_nil, binA, eqIn, eqGuardOk, beq_self_eq_true, stepOp, stHeavy, stV_mk, stO_mk, Tryz.underlying4, stepAny, wantedA_none, rCall, rLen, Tget_set, u0, u1, lA, lt_f (Nat.lt_irrefl X.length), ls_f hc, ls_f h200, k_pword, k_rword, str_ne, k_ptable hA hX1 hY1, k_vtable hA hX1 hY1, k_same3 hA hB, k_same3 hA hA, k_allB hA hB, hd, hself, sameT] <;> rfl))
      | (with_reducible rw [ifQ_t])
      | (with_reducible rw [ifQ_f])
      | (with_reducible refine ifQ_intro ?_ ?_ <;> intro hb))
      refine r_loop (I := fun nn fr s1 => ∃ lc2 tt2 i, fr = ⟨F, lc2, 81, tt2, [], .no⟩ ∧ s1 = ⟨h, F + 1⟩ ∧ i ≤ X.length ∧ nn = X.length - i ∧ lc2 + nn * 1000 ≤ 100000000000000000000000000 ∧ tt2.get 0 = some a ∧ tt2.get 9 = some (.int .i64 (i : Int))) (n := X.length) ?_ ?_ ?_
      · omega
      · exact ⟨_, _, 0, rfl, rfl, Nat.zero_le _, (Nat.sub_zero _).symm, by omega, (by first | (simp only [Tget_set, Nat.reduceEqDiff, ↓reduceIte, u0] <;> rfl) | rfl), (by first | (simp only [Tget_set, ↓reduceIte] <;> rfl) | rfl)⟩
      rintro nn fr s1 ⟨lc2, tt2, i, rfl, rfl, hi2, rfl, hlc2, w0, w9⟩
      by_cases hil2 : i < X.length
      · obtain ⟨b1, o1, eo1, cap1, q, k, c, p, v, l, rfl, hb1, hx, hy, q1, _, q3, q4, hl, r1, _⟩ := res_at hw hA (SameH.refl h) hil2
        have hll := hY1 l (List.mem_of_getElem? hy)
        repeat' (first
        | with_reducible refine r_seq ?_
        | with_reducible refine r_next ?_
        | with_reducible refine r_block ?_
        | with_reducible refine r_seq_exit ?_
        | with_reducible refine r_seq_ret ?_
        | with_reducible refine r_blk_n ?_
        | with_reducible refine r_blk_ret ?_
        | with_reducible refine r_blk_hit ?_
        | with_reducible refine r_blk_miss rfl ?_
        | with_reducible refine r_skip ?_
        | with_reducible refine r_exit ?_
        | with_reducible refine r_ret ?_
        | with_reducible refine r_rq_exit ?_
        | with_reducible refine r_rq_ret ?_
        | ((with_reducible apply r_regA); (focus (simp only [List.append_eq, List.cons_append, List.nil_append] <;> rfl)); (focus (first | exact Nat.le_of_ble_eq_true rfl | (simp only [List.length_cons, List.length_nil]; omega))))
        | ((with_reducible refine r_reg (List.toList_toArray) ?_ ?_); focus (first | exact Nat.le_of_ble_eq_true rfl | (simp only [List.length_cons, List.length_nil]; omega)))
        | ((with_reducible apply (r_drawW (js := [0, 1, 2, 3, 5, 6, 7, 8, 4, 9, 10]))); (focus kernel_rfl); (focus kernel_rfl); (focus (first | exact Nat.le_of_ble_eq_true rfl | (simp only [List.length_cons, List.length_nil]; omega))))
        | ((with_reducible apply d_end); (focus (simp only [List.length_cons, List.length_nil, Nat.add_assoc, Nat.reduceAdd, Nat.zero_add] <;> rfl)))
        | ((with_reducible apply d_any); (focus rfl); (iterate 2 (focus (simp only [↓reduceIte, clsOf, clsCall, Fr.ev, evs, put_mk, pureOp, readOp, rLd, someAgg_s, pBin, binA, Nat.reduceLT, Nat.reduceEqDiff, loadA_w, loadW_a, callTo_s, heavyCall, target, List.nil_append, List.append_nil, binA, Bool.and_true, stepOp, stHeavy, stV_mk, stO_mk, sz25, ag25, stepAny, wantedA_none, readSelf, av_int, av_agg, avs_nil, avs_cons, Tget_set, w0, w9, pIA_s Tryz.underlying22 sz25 hil2, r1, k_rprint hl q1 q3 q4 (show l.length ≤ 90000 by omega), k_vrprint hl q1 q3 q4 (show l.length ≤ 90000 by omega), str_ne, sameT, av_self_L hl] <;> rfl))); (focus (first | exact SameH.refl _ | (simp only [sameT, sameS hw]; done))))
        | ((with_reducible apply r_drawL); (focus kernel_rfl); (focus kernel_rfl); (focus (first | exact Nat.le_of_ble_eq_true rfl | (simp only [List.length_cons, List.length_nil]; omega))))
        | ((with_reducible apply r_end); focus (simp only [Nat.add_assoc, Nat.reduceAdd, Nat.zero_add] <;> rfl))
        | ((with_reducible (first | apply r_move | apply r_assign)); (focus (simp only [Tget_set, Nat.reduceEqDiff, ↓reduceIte] <;> rfl)); (focus (exact Nat.le_of_ble_eq_true rfl)))
        | ((with_reducible apply r_condT); (focus (simp only [Tget_set, ↓reduceIte] <;> rfl)))
        | ((with_reducible (first | apply r_any | apply r_cond)); focus (simp only [↓reduceIte, clsOf, clsCall, Fr.ev, ofV, ofA, ofS, put_mk, pureOp, readOp, pBin, binA, intOp_lss, List.getElem?_cons_zero, Nat.reduceLT, Nat.reduceEqDiff, binA, stepOp, stV_mk, stepAny, wantedA_none, rCall, rLen, Tget_set, w0, w9, lA, lt_t hil2, intOp_add (inR_succ hil2 (show X.length ≤ maxLen by omega))] <;> rfl))
        | (with_reducible rw [ifQ_t])
        | (with_reducible rw [ifQ_f])
        | (with_reducible refine ifQ_intro ?_ ?_ <;> intro hb))
        exact r_rq_n (k := X.length - (i + 1)) (by omega) ⟨_, _, i + 1, rfl, rfl, by omega, rfl, by omega, (by first | (simp only [Tget_set, Nat.reduceEqDiff, ↓reduceIte, w0] <;> rfl) | rfl), (by first | (simp only [Tget_set, ↓reduceIte] <;> rfl) | rfl)⟩
      · repeat' (first
        | with_reducible refine r_seq ?_
        | with_reducible refine r_next ?_
        | with_reducible refine r_block ?_
        | with_reducible refine r_seq_exit ?_
        | with_reducible refine r_seq_ret ?_
        | with_reducible refine r_blk_n ?_
        | with_reducible refine r_blk_ret ?_
        | with_reducible refine r_blk_hit ?_
        | with_reducible refine r_blk_miss rfl ?_
        | with_reducible refine r_skip ?_
        | with_reducible refine r_exit ?_
        | with_reducible refine r_ret ?_
        | with_reducible refine r_rq_exit ?_
        | with_reducible refine r_rq_ret ?_
        | ((with_reducible apply r_regA); (focus (simp only [List.append_eq, List.cons_append, List.nil_append] <;> rfl)); (focus (first | exact Nat.le_of_ble_eq_true rfl | (simp only [List.length_cons, List.length_nil]; omega))))
        | ((with_reducible refine r_reg (List.toList_toArray) ?_ ?_); focus (first | exact Nat.le_of_ble_eq_true rfl | (simp only [List.length_cons, List.length_nil]; omega)))
        | ((with_reducible apply r_drawL); (focus kernel_rfl); (focus kernel_rfl); (focus (first | exact Nat.le_of_ble_eq_true rfl | (simp only [List.length_cons, List.length_nil]; omega))))
        | ((with_reducible apply r_end); focus (simp only [Nat.add_assoc, Nat.reduceAdd, Nat.zero_add] <;> rfl))
        | ((with_reducible (first | apply r_move | apply r_assign)); (focus (simp only [Tget_set, Nat.reduceEqDiff, ↓reduceIte] <;> rfl)); (focus (exact Nat.le_of_ble_eq_true rfl)))
        | ((with_reducible apply r_condT); (focus (simp only [Tget_set, ↓reduceIte] <;> rfl)))
        | ((with_reducible (first | apply r_any | apply r_cond)); focus (simp only [↓reduceIte, clsOf, clsCall, Fr.ev, evs, put_mk, pureOp, readOp, pBin, binA, intOp_lss, List.getElem?_cons_zero, Nat.reduceLT, Nat.reduceEqDiff, callTo_s, heavyCall, target, List.append_nil, binA, stepOp, stHeavy, stV_mk, stO_mk, stepAny, wantedA_none, rCall, rLen, Tget_set, w0, w9, lA, lt_f hil2, k_live] <;> rfl))
        | (with_reducible rw [ifQ_t])
        | (with_reducible rw [ifQ_f])
        | (with_reducible refine ifQ_intro ?_ ?_ <;> intro hb))
        subst hQ
        refine ret_back (by simp only [Tryz.results3, resultOf, resultsA, resultA, List.toList_toArray, Fr.ev, Tget_set, ↓reduceIte] <;> rfl) ?_
        exact ⟨_, rfl⟩

end Go.Proofs.YtlbjmpbgnbpcoaaGreatDoor

/-! A table of texts, as a row lists it. -/
namespace Go.Ai
open Go Go.Lib
theorem cells_of_strs {H : Type} {enc : TypeId × Value → H} {P : Program} {w : World} {base : Nat} {sp : Nat → Bool} {held : Bool} {fuel : Nat} {t e : TypeId} {n : Nat} {cs : List Value} {zs : List (List UInt8)} {p : List MemPlace}
    (ht : P.underlying t = some (.array n e)) (he : P.underlying e = some .string) (hce : P.cellsOf e = 1) (hct : P.cellsOf t = n)
    (h : DataW.trod enc P w base sp held fuel t cs = some (.agg (zs.map fun z => .lit (.string z)), p)) : cs = zs.map fun z => Value.string ⟨z.toArray⟩ := by
  cases fuel with
  | zero => simp [DataW.trod] at h
  | succ fuel =>
    simp only [DataW.trod, ht, hce, hct, Nat.mul_one] at h
    split at h
    · rename_i hl
      obtain ⟨xs, hm, hx⟩ := Option.map_eq_some_iff.1 h
      have hxs : xs.map (·.1) = zs.map fun z => (DataW.lit (.string z) : DataW H) := by
        have := congrArg Prod.fst hx
        simpa using this
      have hxl : xs.length = n := by simpa using mapM_length hm
      have hzl : zs.length = n := by
        have := congrArg List.length hxs
        simp at this
        omega
      apply List.ext_getElem?
      intro i
      by_cases hi : i < n
      · obtain ⟨b, hb, hf⟩ := mapM_at hm i i (by simp [hi])
        obtain ⟨z, hc, rfl, _⟩ := DataW.trod_string he hf
        have h1 : cs[i]? = some (.string z) := by
          have := congrArg (·[0]?) hc
          simpa [List.getElem?_take, List.getElem?_drop] using this
        have h2 : (xs.map (·.1))[i]? = some (DataW.lit (.string z.data.toList) : DataW H) := by simp [hb]
        rw [hxs] at h2
        simp only [List.getElem?_map, Option.map_eq_some_iff, DataW.lit.injEq, Lit.string.injEq] at h2
        obtain ⟨z', hz', rfl⟩ := h2
        simp [h1, hz']
      · rw [List.getElem?_eq_none (by omega), List.getElem?_eq_none (by simp; omega)]
    · cases h
end Go.Ai

