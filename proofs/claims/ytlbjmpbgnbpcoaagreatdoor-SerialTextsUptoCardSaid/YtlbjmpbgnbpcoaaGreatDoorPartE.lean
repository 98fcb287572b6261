/- A part of the proof of the law SerialTexts. CONDITIONS: those that each theorem names. -/
import Derived.Test.YtlbjmpbgnbpcoaaGreatDoorEngineA
import Derived.Test.YtlbjmpbgnbpcoaaGreatDoorEngineB
import Derived.Test.YtlbjmpbgnbpcoaaGreatDoorEngineC
import Derived.Test.YtlbjmpbgnbpcoaaGreatDoorEngineD
import Derived.Test.YtlbjmpbgnbpcoaaGreatDoorEngineE
import Derived.Test.YtlbjmpbgnbpcoaaGreatDoorPartA
import Derived.Test.YtlbjmpbgnbpcoaaGreatDoorSTTypes
import Derived.Test.YtlbjmpbgnbpcoaaGreatDoorPartB
import Derived.Test.YtlbjmpbgnbpcoaaGreatDoorSTLay
import Derived.Test.YtlbjmpbgnbpcoaaGreatDoorPartC
import Derived.Test.YtlbjmpbgnbpcoaaGreatDoorPartD
namespace Go.Proofs.YtlbjmpbgnbpcoaaGreatDoor
open Go Go.Ai
set_option maxRecDepth 100000

theorem bRowT_inj {t : TypeId} {p buf p' buf' : AV} (e : bRowT t p buf = bRowT t p' buf') : p = p' ∧ buf = buf' := by
  have h0 := rd_bld0 (tB := t) (p := p) (buf := buf)
  have h1 := rd_bld1 (tB := t) (p := p) (buf := buf)
  rw [e, rd_bld0] at h0
  rw [e, rd_bld1] at h1
  cases h0; cases h1; exact ⟨rfl, rfl⟩
theorem ccQ (h : Heap) (F b A : Nat) (p buf : AV) (hg : hget h b = some (bRowT 98 p buf)) (hp : p = .nilp ∨ p = .ptr b 0) : SndQ Tryz.prog GL 70 [.ptr b 0] ⟨h, F⟩ (ST A 70 [.ptr b 0] ⟨h, F⟩) := by
  rcases hp with rfl | rfl
  · refine ⟨_, snd_ccFresh noNum Tryz.func70 rfl ccF hg, fun o ho => ?_⟩
    obtain rfl := List.mem_singleton.1 ho
    intro p' buf' hg' _
    obtain ⟨rfl, rfl⟩ := bRowT_inj (Option.some.inj (hg.symm.trans hg'))
    exact ⟨_, rfl, by rw [hget_hset, if_pos rfl], fun i hi => by rw [hget_hset, if_neg hi]⟩
  · refine ⟨_, snd_ccUsed noNum Tryz.func70 rfl ccU hg, fun o ho => ?_⟩
    obtain rfl := List.mem_singleton.1 ho
    intro p' buf' hg' _
    obtain ⟨rfl, rfl⟩ := bRowT_inj (Option.some.inj (hg.symm.trans hg'))
    exact ⟨_, rfl, hg, fun _ _ => rfl⟩
theorem Buf.move {h h' : Heap} {e A B : Nat} {buf : AV} {l : List UInt8} (o : Buf Tryz.prog h e A B buf l) (hg : ∀ i, ky A 0 ≤ i → i < ky B 0 → hget h' i = hget h i) : Buf Tryz.prog h' e A B buf l := by
  rcases o with h0 | ⟨hp, k, h1, h2, h3, h4⟩
  · exact .inl h0
  · exact .inr ⟨hp, k, h1, (hg k h3 h4).trans h2, h3, h4⟩
theorem ky_in {F c : Nat} (hc : c ≤ 1267650600228229401496703205375) : ky F 0 ≤ ky F c ∧ ky F c < ky (F + 1) 0 := ⟨ky_le F c, ky_next F c hc⟩
set_option maxHeartbeats 4000000 in
theorem wstr (h : Heap) (F b : Nat) (x : List UInt8) (l : List UInt8) (A B : Nat) (hB : Bld Tryz.prog h 98 5 b A B l) (hbA : b < ky A 0) (hAB : A ≤ B) (hBF : B ≤ F) (hlen : l.length + x.length ≤ 400000000) :
    SndQ Tryz.prog GL 35 [.ptr b 0, .str x] ⟨h, F⟩ (fun o => ∃ h', o = .val (.tup [.int .i64 (x.length : Int), .nili]) ⟨h', F + 1⟩ ∧ Bld Tryz.prog h' 98 5 b A (F + 1) (l ++ x) ∧ But b A (F + 1) h h') := by
  obtain ⟨p, buf, hg, hp, hbuf⟩ := hB
  refine sndQ_body (K := (KT (ST A))) kt_ok mixed noNum (m := 0) Tryz.func35 ?_
  generalize hQ : retQ _ _ _ _ _ _ = Q0
  refine body_go (c := Tryz.f35.body.getD .skip) (n := 19) rfl rfl (by simp only [↓reduceIte, T.setList, T.set_e, T.set_n, Nat.reduceDiv, Nat.reduceMod, Nat.reduceEqDiff, Nat.zero_add] <;> rfl) ?_
  simp only [Tryz.f35, Option.getD_some]
  repeat' (first
  | with_reducible refine r_seq ?_
  | with_reducible refine r_next ?_
  | with_reducible refine r_block ?_
  | with_reducible refine r_seq_exit ?_
  | with_reducible refine r_seq_ret ?_
  | with_reducible refine r_blk_n ?_
  | with_reducible refine r_blk_ret ?_
  | with_reducible refine r_blk_hit ?_
  | with_reducible refine r_blk_miss rfl ?_
  | with_reducible refine r_skip ?_
  | with_reducible refine r_exit ?_
  | with_reducible refine r_ret ?_
  | with_reducible refine r_rq_exit ?_
  | with_reducible refine r_rq_ret ?_
  | ((with_reducible apply r_regA); (focus (simp only [List.append_eq, List.cons_append, List.nil_append] <;> rfl)); (focus (first | exact Nat.le_of_ble_eq_true rfl | (simp only [List.length_cons, List.length_nil]; omega))))
  | ((with_reducible refine r_reg (List.toList_toArray) ?_ ?_); focus (first | exact Nat.le_of_ble_eq_true rfl | (simp only [List.length_cons, List.length_nil]; omega)))
  | ((with_reducible apply r_drawL); (focus kernel_rfl); (focus kernel_rfl); (focus (first | exact Nat.le_of_ble_eq_true rfl | (simp only [List.length_cons, List.length_nil]; omega))))
  | ((with_reducible apply r_end); focus (simp only [Nat.reduceAdd, Nat.zero_add] <;> rfl))
  | ((with_reducible (first | apply r_move | apply r_assign)); (focus (simp only [T.get_n, ↓reduceIte] <;> rfl)); (focus (exact Nat.le_of_ble_eq_true rfl)))
  | ((with_reducible apply r_condT); (focus (simp only [Tget_set, T.get_n, T.get_e, Nat.reduceEqDiff, Nat.reduceDiv, Nat.reduceMod, Nat.reduceSub, ↓reduceIte, if_true, if_false] <;> rfl)))
  | ((with_reducible (first | apply r_any | apply r_cond)); focus (simp only [↓reduceIte, clsOf, clsCall, Fr.ev, evs, ofV, ofA, ofS, put_mk, pureOp, Nat.reduceLT, Nat.reduceEqDiff, Nat.reduceSub, callTo_s, heavyCall, target, List.nil_append, List.append_nil, stepOp, stHeavy, stV_mk, T.get_n, T.set_n, T.set_e, Nat.reduceDiv, Nat.reduceMod, stepAny, wantedA_none] <;> rfl))
  | (with_reducible rw [ifQ_t])
  | (with_reducible rw [ifQ_f])
  | (with_reducible refine ifQ_intro ?_ ?_ <;> intro hb))
  refine r_callC (S := ST A) (f := 70) (by first | rfl | (simp only [wantedA_none, Tget_set])) (by simp only [callOuts, callTo_s, target, evs, Fr.ev, Tget_set, ↓reduceIte, List.nil_append, List.append_nil]; exact kc_miss rfl) ?_ ?_
  · exact ccQ _ _ _ _ p buf hg hp
  intro o ho
  obtain ⟨h2, rfl, g2, k2⟩ := ho p buf hg hp
  refine ⟨_, by simp only [put_mk, Nat.reduceLT, ↓reduceIte] <;> rfl, ?_⟩
  have hbuf2 := Buf.move (h' := h2) hbuf fun i hi hi2 => k2 i (by omega)
  have hAF : ky A 0 ≤ ky F 0 := ky_mono (by omega)
  obtain ⟨buf', h3, ap, hcell, k3, hbuf3⟩ := app_buf (P := Tryz.prog) (t := 96) (t2 := 9) (e := 5) (key := ky F 10) (f := F + 1) (B' := F + 1) (h := h2) (b := .str x) Tryz.underlying96 Tryz.underlying9 (.inl rfl) sz5 by5 zo5 (src_str x) hlen (by omega) hbuf2 (by have := (ky_in (F := F) (c := 10) (by decide)).1; omega) (ky_in (by decide)).2 (by omega)
  have hAF1 : ky A 0 ≤ ky (F + 1) 0 := ky_mono (by omega)
  have g3 : hget h3 b = some (bRowT 98 (.ptr b 0) buf) := by rw [k3 b (.inl hbA)]; exact g2
  have hsh : buf' = .nils ∨ ∃ k, buf' = .slice k 0 0 (l ++ x).length none := by
    rcases hbuf3 with ⟨h0, _⟩ | ⟨_, k, h0, _⟩
    · exact .inl h0
    · exact .inr ⟨k, h0⟩
  rcases hsh with rfl | ⟨kb, rfl⟩
  all_goals
    repeat' (first
    | with_reducible refine r_seq ?_
    | with_reducible refine r_next ?_
    | with_reducible refine r_block ?_
    | with_reducible refine r_seq_exit ?_
    | with_reducible refine r_seq_ret ?_
    | with_reducible refine r_blk_n ?_
    | with_reducible refine r_blk_ret ?_
    | with_reducible refine r_blk_hit ?_
    | with_reducible refine r_blk_miss rfl ?_
    | with_reducible refine r_skip ?_
    | with_reducible refine r_exit ?_
    | with_reducible refine r_ret ?_
    | with_reducible refine r_rq_exit ?_
    | with_reducible refine r_rq_ret ?_
    | ((with_reducible apply r_regA); (focus (simp only [List.append_eq, List.cons_append, List.nil_append] <;> rfl)); (focus (first | exact Nat.le_of_ble_eq_true rfl | (simp only [List.length_cons, List.length_nil]; omega))))
    | ((with_reducible refine r_reg (List.toList_toArray) ?_ ?_); focus (first | exact Nat.le_of_ble_eq_true rfl | (simp only [List.length_cons, List.length_nil]; omega)))
    | ((with_reducible apply r_drawL); (focus kernel_rfl); (focus kernel_rfl); (focus (first | exact Nat.le_of_ble_eq_true rfl | (simp only [List.length_cons, List.length_nil]; omega))))
    | ((with_reducible apply r_end); focus (simp only [Nat.reduceAdd, Nat.zero_add] <;> rfl))
    | ((with_reducible (first | apply r_move | apply r_assign)); (focus (simp only [Tget_set, T.get_n, Nat.reduceEqDiff, Nat.reduceDiv, Nat.reduceMod, Nat.reduceSub, ↓reduceIte] <;> rfl)); (focus (exact Nat.le_of_ble_eq_true rfl)))
    | ((with_reducible apply r_condT); (focus (simp only [Tget_set, T.get_n, T.get_e, Nat.reduceEqDiff, Nat.reduceDiv, Nat.reduceMod, Nat.reduceSub, ↓reduceIte, if_true, if_false] <;> rfl)))
    | ((with_reducible (first | apply r_any | apply r_cond)); focus (simp only [↓reduceIte, clsOf, clsCall, Fr.ev, ofV, ofA, ofS, AV.cells, put_mk, put_none, keyOf_mk, pureOp, readOp, pFA, pFA1, pFA2, rLd, oneCell_one, List.length_cons, List.length_nil, List.getElem?_cons_zero, List.getElem?_cons_succ, Nat.zero_add, Nat.reduceAdd, Nat.reduceLT, Nat.reduceEqDiff, Nat.reduceSub, Nat.add_eq, loadA_w, loadW_s, aSt_w, stOut_s, heavyCall, actOp, pNil, stepOp, stHeavy, stV_mk, stO_mk, T.get_n, T.set_n, T.set_e, Nat.reduceDiv, Nat.reduceMod, Tryz.underlying9, sz96, ag96, Tryz.underlying98, stepAny, wantedA_none, rCall, rLen, rLen1_str, lenA, g2, g3, rd_bld1, wr_bld1 hcell, aBuiltin, aApp, aApp2, outOf, ap] <;> rfl))
    | (with_reducible rw [ifQ_t])
    | (with_reducible rw [ifQ_f])
    | (with_reducible refine ifQ_intro ?_ ?_ <;> intro hb))
    subst hQ
    refine ret_back (by simp only [Tryz.results35, resultOf, resultsA, resultA, List.toList_toArray, Fr.ev, T.get_n, Nat.reduceDiv, Nat.reduceMod, Nat.reduceSub, Nat.reduceEqDiff, ↓reduceIte] <;> rfl) ?_
    refine ⟨_, rfl, ⟨.ptr b 0, _, by rw [hget_hset, if_pos rfl], .inr rfl, Buf.move hbuf3 fun i hi hi2 => by rw [hget_hset, if_neg (by omega)]⟩, fun i hi hi2 => ?_⟩
    rw [hget_hset, if_neg hi, k3 i hi2, k2 i hi]
set_option maxHeartbeats 4000000 in
theorem wbyt (h : Heap) (F b : Nat) (l : List UInt8) (A B : Nat) (hB : Bld Tryz.prog h 98 5 b A B l) (hbA : b < ky A 0) (hAB : A ≤ B) (hBF : B ≤ F) (hlen : l.length + 1 ≤ 400000000) :
    SndQ Tryz.prog GL 36 [.ptr b 0, .int .u8 10] ⟨h, F⟩ (fun o => ∃ h', o = .val .nili ⟨h', F + 1⟩ ∧ Bld Tryz.prog h' 98 5 b A (F + 1) (l ++ [10]) ∧ But b A (F + 1) h h') := by
  obtain ⟨p, buf, hg, hp, hbuf⟩ := hB
  have nb := fun (key : Nat) (c : Int) => nBS_by (P := Tryz.prog) (key := key) (c := c) sz5 zr5
  refine sndQ_body (K := (KT (ST A))) kt_ok mixed noNum (m := 0) Tryz.func36 ?_
  generalize hQ : retQ _ _ _ _ _ _ = Q0
  refine body_go (c := Tryz.f36.body.getD .skip) (n := 17) rfl rfl (by simp only [↓reduceIte, T.setList, T.set_e, T.set_n, Nat.reduceDiv, Nat.reduceMod, Nat.reduceEqDiff, Nat.zero_add] <;> rfl) ?_
  simp only [Tryz.f36, Option.getD_some]
  repeat' (first
  | with_reducible refine r_seq ?_
  | with_reducible refine r_next ?_
  | with_reducible refine r_block ?_
  | with_reducible refine r_seq_exit ?_
  | with_reducible refine r_seq_ret ?_
  | with_reducible refine r_blk_n ?_
  | with_reducible refine r_blk_ret ?_
  | with_reducible refine r_blk_hit ?_
  | with_reducible refine r_blk_miss rfl ?_
  | with_reducible refine r_skip ?_
  | with_reducible refine r_exit ?_
  | with_reducible refine r_ret ?_
  | with_reducible refine r_rq_exit ?_
  | with_reducible refine r_rq_ret ?_
  | ((with_reducible apply r_regA); (focus (simp only [List.append_eq, List.cons_append, List.nil_append] <;> rfl)); (focus (first | exact Nat.le_of_ble_eq_true rfl | (simp only [List.length_cons, List.length_nil]; omega))))
  | ((with_reducible refine r_reg (List.toList_toArray) ?_ ?_); focus (first | exact Nat.le_of_ble_eq_true rfl | (simp only [List.length_cons, List.length_nil]; omega)))
  | ((with_reducible apply r_drawL); (focus kernel_rfl); (focus kernel_rfl); (focus (first | exact Nat.le_of_ble_eq_true rfl | (simp only [List.length_cons, List.length_nil]; omega))))
  | ((with_reducible apply r_end); focus (simp only [Nat.zero_add] <;> rfl))
  | ((with_reducible (first | apply r_move | apply r_assign)); (focus (simp only [T.get_n, ↓reduceIte] <;> rfl)); (focus (exact Nat.le_of_ble_eq_true rfl)))
  | ((with_reducible apply r_condT); (focus (simp only [Tget_set, T.get_n, T.get_e, Nat.reduceEqDiff, Nat.reduceDiv, Nat.reduceMod, Nat.reduceSub, ↓reduceIte, if_true, if_false] <;> rfl)))
  | ((with_reducible (first | apply r_any | apply r_cond)); focus (simp only [↓reduceIte, clsOf, clsCall, Fr.ev, evs, ofV, ofA, ofS, put_mk, pureOp, Nat.reduceLT, Nat.reduceEqDiff, Nat.reduceSub, callTo_s, heavyCall, target, List.nil_append, List.append_nil, stepOp, stHeavy, stV_mk, T.get_n, T.set_n, T.set_e, Nat.reduceDiv, Nat.reduceMod, stepAny, wantedA_none] <;> rfl))
  | (with_reducible rw [ifQ_t])
  | (with_reducible rw [ifQ_f])
  | (with_reducible refine ifQ_intro ?_ ?_ <;> intro hb))
  refine r_callC (S := ST A) (f := 70) (by first | rfl | (simp only [wantedA_none, Tget_set])) (by simp only [callOuts, callTo_s, target, evs, Fr.ev, Tget_set, ↓reduceIte, List.nil_append, List.append_nil]; exact kc_miss rfl) ?_ ?_
  · exact ccQ _ _ _ _ p buf hg hp
  intro o ho
  obtain ⟨h2, rfl, g2, k2⟩ := ho p buf hg hp
  refine ⟨_, by simp only [put_mk, Nat.reduceLT, ↓reduceIte] <;> rfl, ?_⟩
  have hAF : ky A 0 ≤ ky F 0 := ky_mono (by omega)
  have hAF1 : ky A 0 ≤ ky (F + 1) 0 := ky_mono (by omega)
  have hin9 := ky_in (F := F) (c := 9) (by decide)
  have hin10 := ky_in (F := F) (c := 10) (by decide)
  have hBF1 : ky B 0 ≤ ky F 0 := ky_mono hBF
  have hbuf2 := Buf.move (h' := hset h2 (ky F 9) (mkRowT (5 + 1) [.int .u8 10] 1)) hbuf fun i hi hi2 => by rw [hget_hset, if_neg (by omega)]; exact k2 i (by omega)
  obtain ⟨buf', h3, ap, hcell, k3, hbuf3⟩ := app_buf (P := Tryz.prog) (t := 96) (t2 := 96) (e := 5) (key := ky F 10) (f := F + 1) (B' := F + 1) (h := hset h2 (ky F 9) (mkRowT (5 + 1) [.int .u8 10] 1)) (b := .slice (ky F 9) 0 0 1 (some 1)) (x := [10]) Tryz.underlying96 Tryz.underlying96 (.inr ⟨_, rfl⟩) sz5 by5 zo5 (src_row (x := [10]) (tg := 5 + 1) (by rw [hget_hset, if_pos rfl]; rfl)) hlen (by omega) hbuf2 (by omega) hin10.2 (by omega)
  have g2b : hget (hset h2 (ky F 9) (mkRowT (5 + 1) [.int .u8 10] 1)) b = some (bRowT 98 (.ptr b 0) buf) := by rw [hget_hset, if_neg (by omega)]; exact g2
  have g3 : hget h3 b = some (bRowT 98 (.ptr b 0) buf) := by rw [k3 b (.inl hbA)]; exact g2b
  have hsh : buf' = .nils ∨ ∃ k, buf' = .slice k 0 0 (l ++ [10]).length none := by
    rcases hbuf3 with ⟨h0, _⟩ | ⟨_, k, h0, _⟩
    · exact .inl h0
    · exact .inr ⟨k, h0⟩
  rcases hsh with rfl | ⟨kb, rfl⟩
  all_goals
    repeat' (first
    | with_reducible refine r_seq ?_
    | with_reducible refine r_next ?_
    | with_reducible refine r_block ?_
    | with_reducible refine r_seq_exit ?_
    | with_reducible refine r_seq_ret ?_
    | with_reducible refine r_blk_n ?_
    | with_reducible refine r_blk_ret ?_
    | with_reducible refine r_blk_hit ?_
    | with_reducible refine r_blk_miss rfl ?_
    | with_reducible refine r_skip ?_
    | with_reducible refine r_exit ?_
    | with_reducible refine r_ret ?_
    | with_reducible refine r_rq_exit ?_
    | with_reducible refine r_rq_ret ?_
    | ((with_reducible apply r_regA); (focus (simp only [List.append_eq, List.cons_append, List.nil_append] <;> rfl)); (focus (first | exact Nat.le_of_ble_eq_true rfl | (simp only [List.length_cons, List.length_nil]; omega))))
    | ((with_reducible refine r_reg (List.toList_toArray) ?_ ?_); focus (first | exact Nat.le_of_ble_eq_true rfl | (simp only [List.length_cons, List.length_nil]; omega)))
    | ((with_reducible apply r_drawL); (focus kernel_rfl); (focus kernel_rfl); (focus (first | exact Nat.le_of_ble_eq_true rfl | (simp only [List.length_cons, List.length_nil]; omega))))
    | ((with_reducible apply r_end); focus (simp only [Nat.reduceAdd, Nat.zero_add] <;> rfl))
    | ((with_reducible (first | apply r_move | apply r_assign)); (focus (simp only [Tget_set, T.get_n, Nat.reduceEqDiff, Nat.reduceDiv, Nat.reduceMod, ↓reduceIte] <;> rfl)); (focus (exact Nat.le_of_ble_eq_true rfl)))
    | ((with_reducible apply r_condT); (focus (simp only [Tget_set, T.get_n, T.get_e, Nat.reduceEqDiff, Nat.reduceDiv, Nat.reduceMod, Nat.reduceSub, ↓reduceIte, if_true, if_false] <;> rfl)))
    | ((with_reducible (first | apply r_any | apply r_cond)); focus (simp only [↓reduceIte, clsOf, clsCall, newBlk, allocOp, Fr.ev, evParts, ofV, ofA, ofS, AV.cells, put_mk, put_none, upd_mk, keyOf_mk, pureOp, readOp, pFA, pFA1, pFA2, rLd, oneCell_one, List.length_cons, List.length_nil, List.getElem?_cons_zero, List.getElem?_cons_succ, Nat.zero_add, Nat.reduceAdd, Nat.reduceLT, Nat.reduceEqDiff, Nat.reduceSub, Nat.add_eq, loadA_w, loadW_s, aSt_w, stOut_s, heavyCall, actOp, pNil, stepOp, stHeavy, stV_mk, stB_mk, stO_mk, T.get_n, T.set_n, T.set_e, Nat.reduceDiv, Nat.reduceMod, sz96, ag96, Tryz.underlying96, Tryz.underlying98, stepAny, wantedA_none, g2, g3, rd_bld1, wr_bld1 hcell, nb, tA5, aBuiltin, aApp, aApp2, outOf, ap] <;> rfl))
    | (with_reducible rw [ifQ_t])
    | (with_reducible rw [ifQ_f])
    | (with_reducible refine ifQ_intro ?_ ?_ <;> intro hb))
    subst hQ
    refine ret_back (by simp only [Tryz.results36, resultOf, resultsA, resultA, List.toList_toArray, Fr.ev, T.get_n, Nat.reduceDiv, Nat.reduceMod, Nat.reduceSub, Nat.reduceEqDiff, ↓reduceIte] <;> rfl) ?_
    refine ⟨_, rfl, ⟨.ptr b 0, _, by rw [hget_hset, if_pos rfl], .inr rfl, Buf.move hbuf3 fun i hi hi2 => by rw [hget_hset, if_neg (by omega)]⟩, fun i hi hi2 => ?_⟩
    rw [hget_hset, if_neg hi, k3 i hi2, hget_hset, if_neg (by omega), k2 i hi]
set_option maxHeartbeats 4000000 in
theorem strg (h : Heap) (F b : Nat) (l : List UInt8) (A B : Nat) (hB : Bld Tryz.prog h 98 5 b A B l) (hBF : B ≤ F) (hlen : l.length ≤ 400000000) :
    SndQ Tryz.prog GL 37 [.ptr b 0] ⟨h, F⟩ (fun o => ∃ h', o = .val (.str l) ⟨h', F + 1⟩ ∧ Low A h h') := by
  obtain ⟨p, buf, hg, hp, hbuf⟩ := hB
  rcases hbuf with ⟨rfl, rfl⟩ | ⟨hpos, k, rfl, hk, hk1, hk2⟩
  · refine sndQ_body (K := (KT (ST A))) kt_ok mixed noNum (m := 0) Tryz.func37 ?_
    generalize hQ : retQ _ _ _ _ _ _ = Q0
    refine body_go (c := Tryz.f37.body.getD .skip) (n := 14) rfl rfl (by simp only [↓reduceIte, T.setList, T.set_e] <;> rfl) ?_
    simp only [Tryz.f37, Option.getD_some]
    repeat' (first
    | with_reducible refine r_seq ?_
    | with_reducible refine r_next ?_
    | with_reducible refine r_block ?_
    | with_reducible refine r_seq_exit ?_
    | with_reducible refine r_seq_ret ?_
    | with_reducible refine r_blk_n ?_
    | with_reducible refine r_blk_ret ?_
    | with_reducible refine r_blk_hit ?_
    | with_reducible refine r_blk_miss rfl ?_
    | with_reducible refine r_skip ?_
    | with_reducible refine r_exit ?_
    | with_reducible refine r_ret ?_
    | with_reducible refine r_rq_exit ?_
    | with_reducible refine r_rq_ret ?_
    | ((with_reducible apply r_regA); (focus (simp only [List.append_eq, List.cons_append, List.nil_append] <;> rfl)); (focus (first | exact Nat.le_of_ble_eq_true rfl | (simp only [List.length_cons, List.length_nil]; omega))))
    | ((with_reducible refine r_reg (List.toList_toArray) ?_ ?_); focus (first | exact Nat.le_of_ble_eq_true rfl | (simp only [List.length_cons, List.length_nil]; omega)))
    | ((with_reducible apply (r_drawG (js := [(0, 0), (1, 1), (2, 3), (3, 7), (5, 0), (6, 32), (7, 96), (8, 224), (9, 480), (4, 15), (10, 1023), (11, 2047)]))); (focus kernel_rfl); (focus kernel_rfl); (focus (first | exact Nat.le_of_ble_eq_true rfl | (simp only [List.length_cons, List.length_nil]; omega))))
    | ((with_reducible apply g_end); (focus (simp only [List.length_cons, List.length_nil, Nat.reduceAdd, Nat.zero_add] <;> rfl)); simp only [withH_mk, addAll_nil, ↓reduceIte, withH_mk, Nat.reduceEqDiff, Nat.reduceSub, T.set_n, T.set_e, Nat.reduceDiv, Nat.reduceMod, addAll_nil])
    | ((with_reducible apply g_undef); (focus rfl); (focus (simp only [↓reduceIte, Nat.reduceEqDiff, Nat.reduceSub, T.set_n, T.set_e, Nat.reduceDiv, Nat.reduceMod, wantedA_none] <;> rfl)); (focus (simp only [put_mk, put_none, Nat.reduceLT, ↓reduceIte, if_true, if_false] <;> rfl)))
    | ((with_reducible apply g_pure); (focus rfl); (focus rfl); (focus (first | rfl | (simp only [↓reduceIte, wantedA_eq, gBool_t, gBool_f, Bool.not_true, Bool.not_false, Bool.not_not, clsOf, clsCall, newBlk, allocOp, ev_tmp, Fr.ev, evs, evParts, ofV, ofA, ofS, ofSs, ofAs, nVar, AV.cells, rowOf_mk, rowT_mk, mkRowT_0, put_mk, put_none, upd_mk, withH_mk, keyOf_mk, ky_inj, pureOp, readOp, T.get_e, pFA, pFA1, pFA2, rLd, rdAB_row, oneCell_one, someAgg_s, hget_same, hget_hset_ite, pBin, binA, intOp_eql, intOp_neq, intOp_lss, intOp_leq, intOp_gtr, intOp_geq, pPick, List.length_cons, List.length_nil, List.getElem?_cons_zero, List.getElem?_cons_succ, List.drop_zero, List.drop_succ_cons, List.take_succ_cons, List.take_zero, Nat.zero_add, Nat.add_zero, Nat.reduceAdd, Nat.reduceLT, Nat.reduceLeDiff, Nat.reduceEqDiff, Nat.reduceMul, Nat.reduceSub, Nat.succ_eq_add_one, if_true, if_false, true_and, and_true, and_self, List.toList_toArray, Nat.add_eq, Nat.mul_eq, Nat.sub_eq, loadA_w, loadW_a, loadW_s, aSt_w, stOut_s, wrAB_row, ovr, List.set_cons_zero, List.set_cons_succ, allCell, ic_b, ic_i, ic_s, ic_np, ic_p, ic_g, ic_ns, ic_h, ic_sl, ic_nm, ic_m, ic_nf, ic_f, ic_ni, ic_if, pUn_not, callTo_s, heavyCall, target, actOp, pEx, List.nil_append, List.append_nil, pNil, pBuild, pBuild2, fieldsOk, buildParts, List.getElem?_nil, pMkF, binA, eqIn, eqGuardOk, pF, pF1, partA, beq_self_eq_true, bne_self_eq_false, decide_true, decide_false, Int.reduceBEq, Int.reduceBNe, Int.reduceLT, Int.reduceLE, Int.reduceEq, Int.reduceNeg, Int.reduceAdd, Int.reduceSub, Bool.and_true, Bool.true_and, Bool.and_false, Bool.false_and, stepOp, stHeavy, stV_mk, stB_mk, stO_mk, T.get_n, T.set_n, T.set_e, Nat.reduceDiv, Nat.reduceMod, ofNat_z, sz3, ag3, zr3, tg3, Tryz.underlying3, sz5, ag5, zr5, tg5, Tryz.underlying5, sz95, ag95, zr95, tg95, Tryz.underlying95, sz96, ag96, zr96, tg96, Tryz.underlying96, sz98, ag98, zr98, tg98, Tryz.underlying98, sz149, ag149, zr149, tg149, Tryz.underlying149, stepAny, wantedA_none, rCall, rLen, rLen1_str, rLen1_sl, lenA, Tget_set, natOf_c, Nat.left_eq_add, Nat.add_eq_left, Nat.testBit_eq_decide_div_mod_eq, Nat.reducePow, addMade_nil, addMade_cons, mad1_t, mad1_o, mad1_f, addAll_nil, addAll_cons, readsLeft_nil, readsLeft_cons, rdl1_t, rdl1_f, readsOk_nil, readsOk_cons, rok1_s, asideOk_nil, asideOk_cons, asd1_n, asd1_s, av_str, av_int, av_bool, av_ptr, av_sl, av_nils, av_nili, av_agg, av_if, avs_nil, avs_cons, Bool.and_self, hg, rd_bld1, aBuiltin, aUSD, aUS] <;> rfl))); (focus (simp only [↓reduceIte, Fr.ev, pureOp, pFA, pFA1, pFA2, List.getElem?_cons_zero, List.getElem?_cons_succ, Nat.zero_add, Nat.reduceEqDiff, Nat.reduceSub, Nat.add_eq, pNil, T.get_n, T.set_n, T.set_e, Nat.reduceDiv, Nat.reduceMod, sz96, Tryz.underlying98] <;> rfl)); (focus (simp only [put_mk, Nat.reduceLT, ↓reduceIte] <;> rfl)))
    | ((with_reducible apply g_read); (focus rfl); (focus rfl); (focus (first | rfl | (simp only [↓reduceIte, wantedA_eq, gBool_t, gBool_f, Bool.not_true, Bool.not_false, Bool.not_not, clsOf, clsCall, newBlk, allocOp, ev_tmp, Fr.ev, evs, evParts, ofV, ofA, ofS, ofSs, ofAs, nVar, AV.cells, rowOf_mk, rowT_mk, mkRowT_0, put_mk, put_none, upd_mk, withH_mk, keyOf_mk, ky_inj, pureOp, readOp, T.get_e, pFA, pFA1, pFA2, rLd, rdAB_row, oneCell_one, someAgg_s, hget_same, hget_hset_ite, pBin, binA, intOp_eql, intOp_neq, intOp_lss, intOp_leq, intOp_gtr, intOp_geq, pPick, List.length_cons, List.length_nil, List.getElem?_cons_zero, List.getElem?_cons_succ, List.drop_zero, List.drop_succ_cons, List.take_succ_cons, List.take_zero, Nat.zero_add, Nat.add_zero, Nat.reduceAdd, Nat.reduceLT, Nat.reduceLeDiff, Nat.reduceEqDiff, Nat.reduceMul, Nat.reduceSub, Nat.succ_eq_add_one, if_true, if_false, true_and, and_true, and_self, List.toList_toArray, Nat.add_eq, Nat.mul_eq, Nat.sub_eq, loadA_w, loadW_a, loadW_s, aSt_w, stOut_s, wrAB_row, ovr, List.set_cons_zero, List.set_cons_succ, allCell, ic_b, ic_i, ic_s, ic_np, ic_p, ic_g, ic_ns, ic_h, ic_sl, ic_nm, ic_m, ic_nf, ic_f, ic_ni, ic_if, pUn_not, callTo_s, heavyCall, target, actOp, pEx, List.nil_append, List.append_nil, pNil, pBuild, pBuild2, fieldsOk, buildParts, List.getElem?_nil, pMkF, binA, eqIn, eqGuardOk, pF, pF1, partA, beq_self_eq_true, bne_self_eq_false, decide_true, decide_false, Int.reduceBEq, Int.reduceBNe, Int.reduceLT, Int.reduceLE, Int.reduceEq, Int.reduceNeg, Int.reduceAdd, Int.reduceSub, Bool.and_true, Bool.true_and, Bool.and_false, Bool.false_and, stepOp, stHeavy, stV_mk, stB_mk, stO_mk, T.get_n, T.set_n, T.set_e, Nat.reduceDiv, Nat.reduceMod, ofNat_z, sz3, ag3, zr3, tg3, Tryz.underlying3, sz5, ag5, zr5, tg5, Tryz.underlying5, sz95, ag95, zr95, tg95, Tryz.underlying95, sz96, ag96, zr96, tg96, Tryz.underlying96, sz98, ag98, zr98, tg98, Tryz.underlying98, sz149, ag149, zr149, tg149, Tryz.underlying149, stepAny, wantedA_none, rCall, rLen, rLen1_str, rLen1_sl, lenA, Tget_set, natOf_c, Nat.left_eq_add, Nat.add_eq_left, Nat.testBit_eq_decide_div_mod_eq, Nat.reducePow, addMade_nil, addMade_cons, mad1_t, mad1_o, mad1_f, addAll_nil, addAll_cons, readsLeft_nil, readsLeft_cons, rdl1_t, rdl1_f, readsOk_nil, readsOk_cons, rok1_s, asideOk_nil, asideOk_cons, asd1_n, asd1_s, av_str, av_int, av_bool, av_ptr, av_sl, av_nils, av_nili, av_agg, av_if, avs_nil, avs_cons, Bool.and_self, hg, rd_bld1, aBuiltin, aUSD, aUS] <;> rfl))); (focus (simp only [↓reduceIte, Fr.ev, readOp, rLd, oneCell_one, List.getElem?_cons_zero, Nat.reduceEqDiff, Nat.reduceSub, loadA_w, loadW_s, T.get_n, T.set_n, T.set_e, Nat.reduceDiv, Nat.reduceMod, sz96, ag96, rCall, rLen, addMade_nil, hg, rd_bld1] <;> rfl)); (focus (simp only [put_mk, Nat.reduceLT, ↓reduceIte] <;> rfl)))
    | ((with_reducible apply g_alloc); (focus rfl); (focus rfl); (focus (first | rfl | (simp only [↓reduceIte, wantedA_eq, gBool_t, gBool_f, Bool.not_true, Bool.not_false, Bool.not_not, clsOf, clsCall, newBlk, allocOp, ev_tmp, Fr.ev, evs, evParts, ofV, ofA, ofS, ofSs, ofAs, nVar, AV.cells, rowOf_mk, rowT_mk, mkRowT_0, put_mk, put_none, upd_mk, withH_mk, keyOf_mk, ky_inj, pureOp, readOp, T.get_e, pFA, pFA1, pFA2, rLd, rdAB_row, oneCell_one, someAgg_s, hget_same, hget_hset_ite, pBin, binA, intOp_eql, intOp_neq, intOp_lss, intOp_leq, intOp_gtr, intOp_geq, pPick, List.length_cons, List.length_nil, List.getElem?_cons_zero, List.getElem?_cons_succ, List.drop_zero, List.drop_succ_cons, List.take_succ_cons, List.take_zero, Nat.zero_add, Nat.add_zero, Nat.reduceAdd, Nat.reduceLT, Nat.reduceLeDiff, Nat.reduceEqDiff, Nat.reduceMul, Nat.reduceSub, Nat.succ_eq_add_one, if_true, if_false, true_and, and_true, and_self, List.toList_toArray, Nat.add_eq, Nat.mul_eq, Nat.sub_eq, loadA_w, loadW_a, loadW_s, aSt_w, stOut_s, wrAB_row, ovr, List.set_cons_zero, List.set_cons_succ, allCell, ic_b, ic_i, ic_s, ic_np, ic_p, ic_g, ic_ns, ic_h, ic_sl, ic_nm, ic_m, ic_nf, ic_f, ic_ni, ic_if, pUn_not, callTo_s, heavyCall, target, actOp, pEx, List.nil_append, List.append_nil, pNil, pBuild, pBuild2, fieldsOk, buildParts, List.getElem?_nil, pMkF, binA, eqIn, eqGuardOk, pF, pF1, partA, beq_self_eq_true, bne_self_eq_false, decide_true, decide_false, Int.reduceBEq, Int.reduceBNe, Int.reduceLT, Int.reduceLE, Int.reduceEq, Int.reduceNeg, Int.reduceAdd, Int.reduceSub, Bool.and_true, Bool.true_and, Bool.and_false, Bool.false_and, stepOp, stHeavy, stV_mk, stB_mk, stO_mk, T.get_n, T.set_n, T.set_e, Nat.reduceDiv, Nat.reduceMod, ofNat_z, sz3, ag3, zr3, tg3, Tryz.underlying3, sz5, ag5, zr5, tg5, Tryz.underlying5, sz95, ag95, zr95, tg95, Tryz.underlying95, sz96, ag96, zr96, tg96, Tryz.underlying96, sz98, ag98, zr98, tg98, Tryz.underlying98, sz149, ag149, zr149, tg149, Tryz.underlying149, stepAny, wantedA_none, rCall, rLen, rLen1_str, rLen1_sl, lenA, Tget_set, natOf_c, Nat.left_eq_add, Nat.add_eq_left, Nat.testBit_eq_decide_div_mod_eq, Nat.reducePow, addMade_nil, addMade_cons, mad1_t, mad1_o, mad1_f, addAll_nil, addAll_cons, readsLeft_nil, readsLeft_cons, rdl1_t, rdl1_f, readsOk_nil, readsOk_cons, rok1_s, asideOk_nil, asideOk_cons, asd1_n, asd1_s, av_str, av_int, av_bool, av_ptr, av_sl, av_nils, av_nili, av_agg, av_if, avs_nil, avs_cons, Bool.and_self, hg, rd_bld1, aBuiltin, aUSD, aUS] <;> rfl))); (focus (simp only [keyOf_mk, Nat.add_zero, Nat.zero_add] <;> rfl)); (focus (simp only [↓reduceIte, wantedA_eq, gBool_t, gBool_f, Bool.not_true, Bool.not_false, Bool.not_not, clsOf, clsCall, newBlk, allocOp, ev_tmp, Fr.ev, evs, evParts, ofV, ofA, ofS, ofSs, ofAs, nVar, AV.cells, rowOf_mk, rowT_mk, mkRowT_0, put_mk, put_none, upd_mk, withH_mk, keyOf_mk, ky_inj, pureOp, readOp, T.get_e, pFA, pFA1, pFA2, rLd, rdAB_row, oneCell_one, someAgg_s, hget_same, hget_hset_ite, pBin, binA, intOp_eql, intOp_neq, intOp_lss, intOp_leq, intOp_gtr, intOp_geq, pPick, List.length_cons, List.length_nil, List.getElem?_cons_zero, List.getElem?_cons_succ, List.drop_zero, List.drop_succ_cons, List.take_succ_cons, List.take_zero, Nat.zero_add, Nat.add_zero, Nat.reduceAdd, Nat.reduceLT, Nat.reduceLeDiff, Nat.reduceEqDiff, Nat.reduceMul, Nat.reduceSub, Nat.succ_eq_add_one, if_true, if_false, true_and, and_true, and_self, List.toList_toArray, Nat.add_eq, Nat.mul_eq, Nat.sub_eq, loadA_w, loadW_a, loadW_s, aSt_w, stOut_s, wrAB_row, ovr, List.set_cons_zero, List.set_cons_succ, allCell, ic_b, ic_i, ic_s, ic_np, ic_p, ic_g, ic_ns, ic_h, ic_sl, ic_nm, ic_m, ic_nf, ic_f, ic_ni, ic_if, pUn_not, callTo_s, heavyCall, target, actOp, pEx, List.nil_append, List.append_nil, pNil, pBuild, pBuild2, fieldsOk, buildParts, List.getElem?_nil, pMkF, binA, eqIn, eqGuardOk, pF, pF1, partA, beq_self_eq_true, bne_self_eq_false, decide_true, decide_false, Int.reduceBEq, Int.reduceBNe, Int.reduceLT, Int.reduceLE, Int.reduceEq, Int.reduceNeg, Int.reduceAdd, Int.reduceSub, Bool.and_true, Bool.true_and, Bool.and_false, Bool.false_and, stepOp, stHeavy, stV_mk, stB_mk, stO_mk, T.get_n, T.set_n, T.set_e, Nat.reduceDiv, Nat.reduceMod, ofNat_z, sz3, ag3, zr3, tg3, Tryz.underlying3, sz5, ag5, zr5, tg5, Tryz.underlying5, sz95, ag95, zr95, tg95, Tryz.underlying95, sz96, ag96, zr96, tg96, Tryz.underlying96, sz98, ag98, zr98, tg98, Tryz.underlying98, sz149, ag149, zr149, tg149, Tryz.underlying149, stepAny, wantedA_none, rCall, rLen, rLen1_str, rLen1_sl, lenA, Tget_set, natOf_c, Nat.left_eq_add, Nat.add_eq_left, Nat.testBit_eq_decide_div_mod_eq, Nat.reducePow, addMade_nil, addMade_cons, mad1_t, mad1_o, mad1_f, addAll_nil, addAll_cons, readsLeft_nil, readsLeft_cons, rdl1_t, rdl1_f, readsOk_nil, readsOk_cons, rok1_s, asideOk_nil, asideOk_cons, asd1_n, asd1_s, av_str, av_int, av_bool, av_ptr, av_sl, av_nils, av_nili, av_agg, av_if, avs_nil, avs_cons, Bool.and_self, hg, rd_bld1, aBuiltin, aUSD, aUS] <;> rfl)); (focus (simp only [↓reduceIte, wantedA_eq, gBool_t, gBool_f, Bool.not_true, Bool.not_false, Bool.not_not, clsOf, clsCall, newBlk, allocOp, ev_tmp, Fr.ev, evs, evParts, ofV, ofA, ofS, ofSs, ofAs, nVar, AV.cells, rowOf_mk, rowT_mk, mkRowT_0, put_mk, put_none, upd_mk, withH_mk, keyOf_mk, ky_inj, pureOp, readOp, T.get_e, pFA, pFA1, pFA2, rLd, rdAB_row, oneCell_one, someAgg_s, hget_same, hget_hset_ite, pBin, binA, intOp_eql, intOp_neq, intOp_lss, intOp_leq, intOp_gtr, intOp_geq, pPick, List.length_cons, List.length_nil, List.getElem?_cons_zero, List.getElem?_cons_succ, List.drop_zero, List.drop_succ_cons, List.take_succ_cons, List.take_zero, Nat.zero_add, Nat.add_zero, Nat.reduceAdd, Nat.reduceLT, Nat.reduceLeDiff, Nat.reduceEqDiff, Nat.reduceMul, Nat.reduceSub, Nat.succ_eq_add_one, if_true, if_false, true_and, and_true, and_self, List.toList_toArray, Nat.add_eq, Nat.mul_eq, Nat.sub_eq, loadA_w, loadW_a, loadW_s, aSt_w, stOut_s, wrAB_row, ovr, List.set_cons_zero, List.set_cons_succ, allCell, ic_b, ic_i, ic_s, ic_np, ic_p, ic_g, ic_ns, ic_h, ic_sl, ic_nm, ic_m, ic_nf, ic_f, ic_ni, ic_if, pUn_not, callTo_s, heavyCall, target, actOp, pEx, List.nil_append, List.append_nil, pNil, pBuild, pBuild2, fieldsOk, buildParts, List.getElem?_nil, pMkF, binA, eqIn, eqGuardOk, pF, pF1, partA, beq_self_eq_true, bne_self_eq_false, decide_true, decide_false, Int.reduceBEq, Int.reduceBNe, Int.reduceLT, Int.reduceLE, Int.reduceEq, Int.reduceNeg, Int.reduceAdd, Int.reduceSub, Bool.and_true, Bool.true_and, Bool.and_false, Bool.false_and, stepOp, stHeavy, stV_mk, stB_mk, stO_mk, T.get_n, T.set_n, T.set_e, Nat.reduceDiv, Nat.reduceMod, ofNat_z, sz3, ag3, zr3, tg3, Tryz.underlying3, sz5, ag5, zr5, tg5, Tryz.underlying5, sz95, ag95, zr95, tg95, Tryz.underlying95, sz96, ag96, zr96, tg96, Tryz.underlying96, sz98, ag98, zr98, tg98, Tryz.underlying98, sz149, ag149, zr149, tg149, Tryz.underlying149, stepAny, wantedA_none, rCall, rLen, rLen1_str, rLen1_sl, lenA, Tget_set, natOf_c, Nat.left_eq_add, Nat.add_eq_left, Nat.testBit_eq_decide_div_mod_eq, Nat.reducePow, addMade_nil, addMade_cons, mad1_t, mad1_o, mad1_f, addAll_nil, addAll_cons, readsLeft_nil, readsLeft_cons, rdl1_t, rdl1_f, readsOk_nil, readsOk_cons, rok1_s, asideOk_nil, asideOk_cons, asd1_n, asd1_s, av_str, av_int, av_bool, av_ptr, av_sl, av_nils, av_nili, av_agg, av_if, avs_nil, avs_cons, Bool.and_self, hg, rd_bld1, aBuiltin, aUSD, aUS])); (focus (simp only [put_mk, put_none, Nat.reduceLT, ↓reduceIte, if_true, if_false] <;> rfl)))
    | ((with_reducible apply g_act); (focus rfl); (focus rfl); (focus rfl); (focus (first | rfl | (simp only [↓reduceIte, wantedA_eq, gBool_t, gBool_f, Bool.not_true, Bool.not_false, Bool.not_not, clsOf, clsCall, newBlk, allocOp, ev_tmp, Fr.ev, evs, evParts, ofV, ofA, ofS, ofSs, ofAs, nVar, AV.cells, rowOf_mk, rowT_mk, mkRowT_0, put_mk, put_none, upd_mk, withH_mk, keyOf_mk, ky_inj, pureOp, readOp, T.get_e, pFA, pFA1, pFA2, rLd, rdAB_row, oneCell_one, someAgg_s, hget_same, hget_hset_ite, pBin, binA, intOp_eql, intOp_neq, intOp_lss, intOp_leq, intOp_gtr, intOp_geq, pPick, List.length_cons, List.length_nil, List.getElem?_cons_zero, List.getElem?_cons_succ, List.drop_zero, List.drop_succ_cons, List.take_succ_cons, List.take_zero, Nat.zero_add, Nat.add_zero, Nat.reduceAdd, Nat.reduceLT, Nat.reduceLeDiff, Nat.reduceEqDiff, Nat.reduceMul, Nat.reduceSub, Nat.succ_eq_add_one, if_true, if_false, true_and, and_true, and_self, List.toList_toArray, Nat.add_eq, Nat.mul_eq, Nat.sub_eq, loadA_w, loadW_a, loadW_s, aSt_w, stOut_s, wrAB_row, ovr, List.set_cons_zero, List.set_cons_succ, allCell, ic_b, ic_i, ic_s, ic_np, ic_p, ic_g, ic_ns, ic_h, ic_sl, ic_nm, ic_m, ic_nf, ic_f, ic_ni, ic_if, pUn_not, callTo_s, heavyCall, target, actOp, pEx, List.nil_append, List.append_nil, pNil, pBuild, pBuild2, fieldsOk, buildParts, List.getElem?_nil, pMkF, binA, eqIn, eqGuardOk, pF, pF1, partA, beq_self_eq_true, bne_self_eq_false, decide_true, decide_false, Int.reduceBEq, Int.reduceBNe, Int.reduceLT, Int.reduceLE, Int.reduceEq, Int.reduceNeg, Int.reduceAdd, Int.reduceSub, Bool.and_true, Bool.true_and, Bool.and_false, Bool.false_and, stepOp, stHeavy, stV_mk, stB_mk, stO_mk, T.get_n, T.set_n, T.set_e, Nat.reduceDiv, Nat.reduceMod, ofNat_z, sz3, ag3, zr3, tg3, Tryz.underlying3, sz5, ag5, zr5, tg5, Tryz.underlying5, sz95, ag95, zr95, tg95, Tryz.underlying95, sz96, ag96, zr96, tg96, Tryz.underlying96, sz98, ag98, zr98, tg98, Tryz.underlying98, sz149, ag149, zr149, tg149, Tryz.underlying149, stepAny, wantedA_none, rCall, rLen, rLen1_str, rLen1_sl, lenA, Tget_set, natOf_c, Nat.left_eq_add, Nat.add_eq_left, Nat.testBit_eq_decide_div_mod_eq, Nat.reducePow, addMade_nil, addMade_cons, mad1_t, mad1_o, mad1_f, addAll_nil, addAll_cons, readsLeft_nil, readsLeft_cons, rdl1_t, rdl1_f, readsOk_nil, readsOk_cons, rok1_s, asideOk_nil, asideOk_cons, asd1_n, asd1_s, av_str, av_int, av_bool, av_ptr, av_sl, av_nils, av_nili, av_agg, av_if, avs_nil, avs_cons, Bool.and_self, hg, rd_bld1, aBuiltin, aUSD, aUS] <;> rfl))); (focus (simp only [heavy, ↓reduceIte, Fr.ev, evs, withH_mk, Nat.reduceEqDiff, Nat.reduceSub, Nat.succ_eq_add_one, heavyCall, T.get_n, T.set_n, T.set_e, Nat.reduceDiv, Nat.reduceMod, addMade_nil, aBuiltin, aUSD, aUS] <;> rfl)); (focus (simp only [put_mk, Nat.reduceLT, ↓reduceIte] <;> rfl)); (focus (simp only [↓reduceIte, Fr.ev, readOp, rLd, oneCell_one, List.getElem?_cons_zero, Nat.reduceEqDiff, Nat.reduceSub, loadA_w, loadW_s, decide_true, decide_false, T.get_n, T.set_n, T.set_e, Nat.reduceDiv, Nat.reduceMod, sz96, ag96, rCall, rLen, Nat.testBit_eq_decide_div_mod_eq, Nat.reducePow, addMade_nil, readsLeft_nil, readsLeft_cons, rdl1_t, rdl1_f, readsOk_nil, readsOk_cons, rok1_s, av_nils, Bool.and_self, hg, rd_bld1] <;> rfl)); (focus (simp only [addMade_nil, asideOk_nil] <;> rfl)))
    | ((with_reducible apply r_drawL); (focus kernel_rfl); (focus kernel_rfl); (focus (first | exact Nat.le_of_ble_eq_true rfl | (simp only [List.length_cons, List.length_nil]; omega))))
    | ((with_reducible apply r_end); focus (simp only [Nat.zero_add] <;> rfl))
    | ((with_reducible (first | apply r_move | apply r_assign)); (focus (simp only [Tget_set, T.get_n, T.get_e, Nat.reduceEqDiff, Nat.reduceDiv, Nat.reduceMod, Nat.reduceSub, ↓reduceIte, if_true, if_false] <;> rfl)); (focus (exact Nat.le_of_ble_eq_true rfl)))
    | ((with_reducible apply r_condT); (focus (simp only [Tget_set, T.get_n, T.get_e, Nat.reduceEqDiff, Nat.reduceDiv, Nat.reduceMod, Nat.reduceSub, ↓reduceIte, if_true, if_false] <;> rfl)))
    | ((with_reducible (first | apply r_any | apply r_cond)); focus (simp only [↓reduceIte, clsOf, Fr.ev, ofV, ofA, ofS, put_mk, pureOp, Nat.reduceLT, Nat.reduceEqDiff, Nat.reduceSub, stepOp, stV_mk, T.set_n, T.set_e, Nat.reduceDiv, Nat.reduceMod, stepAny, wantedA_none] <;> rfl))
    | (with_reducible rw [ifQ_t])
    | (with_reducible rw [ifQ_f])
    | (with_reducible refine ifQ_intro ?_ ?_ <;> intro hb))
    subst hQ
    refine ret_back (by simp only [Tryz.results37, resultOf, resultsA, resultA, List.toList_toArray, Fr.ev, T.get_n, Nat.reduceDiv, Nat.reduceMod, Nat.reduceSub, Nat.reduceEqDiff, ↓reduceIte] <;> rfl) ?_
    exact ⟨_, rfl, Low.refl A h⟩
  · have us := us_row (P := Tryz.prog) (t1 := 149) (t2 := 3) (s := ⟨h, F + 1⟩) Tryz.underlying149 Tryz.underlying5 Tryz.underlying5 sz5 hk hpos (by omega)
    have hbl : Nat.blt 0 l.length = true := by rw [Nat.blt_eq]; exact hpos
    refine sndQ_body (K := (KT (ST A))) kt_ok mixed noNum (m := 0) Tryz.func37 ?_
    generalize hQ : retQ _ _ _ _ _ _ = Q0
    refine body_go (c := Tryz.f37.body.getD .skip) (n := 14) rfl rfl (by simp only [↓reduceIte, T.setList, T.set_e] <;> rfl) ?_
    simp only [Tryz.f37, Option.getD_some]
    repeat' (first
    | with_reducible refine r_seq ?_
    | with_reducible refine r_next ?_
    | with_reducible refine r_block ?_
    | with_reducible refine r_seq_exit ?_
    | with_reducible refine r_seq_ret ?_
    | with_reducible refine r_blk_n ?_
    | with_reducible refine r_blk_ret ?_
    | with_reducible refine r_blk_hit ?_
    | with_reducible refine r_blk_miss rfl ?_
    | with_reducible refine r_skip ?_
    | with_reducible refine r_exit ?_
    | with_reducible refine r_ret ?_
    | with_reducible refine r_rq_exit ?_
    | with_reducible refine r_rq_ret ?_
    | ((with_reducible apply r_regA); (focus (simp only [List.append_eq, List.cons_append, List.nil_append] <;> rfl)); (focus (first | exact Nat.le_of_ble_eq_true rfl | (simp only [List.length_cons, List.length_nil]; omega))))
    | ((with_reducible refine r_reg (List.toList_toArray) ?_ ?_); focus (first | exact Nat.le_of_ble_eq_true rfl | (simp only [List.length_cons, List.length_nil]; omega)))
    | ((with_reducible apply (r_drawG (js := [(0, 0), (1, 1), (2, 3), (3, 7), (5, 0), (6, 32), (7, 96), (8, 224), (9, 480), (4, 15), (10, 1023), (11, 2047)]))); (focus kernel_rfl); (focus kernel_rfl); (focus (first | exact Nat.le_of_ble_eq_true rfl | (simp only [List.length_cons, List.length_nil]; omega))))
    | ((with_reducible apply g_end); (focus (simp only [List.length_cons, List.length_nil, Nat.reduceAdd, Nat.zero_add] <;> rfl)); simp only [withH_mk, addAll_nil, ↓reduceIte, withH_mk, Nat.reduceEqDiff, Nat.reduceSub, T.set_n, T.set_e, Nat.reduceDiv, Nat.reduceMod, addAll_nil])
    | ((with_reducible apply g_undef); (focus rfl); (focus (simp only [↓reduceIte, Nat.reduceEqDiff, Nat.reduceSub, T.set_n, T.set_e, Nat.reduceDiv, Nat.reduceMod, wantedA_none] <;> rfl)); (focus (simp only [put_mk, put_none, Nat.reduceLT, ↓reduceIte, if_true, if_false] <;> rfl)))
    | ((with_reducible apply g_pure); (focus rfl); (focus rfl); (focus (first | rfl | (simp only [↓reduceIte, wantedA_eq, gBool_t, gBool_f, Bool.not_true, Bool.not_false, Bool.not_not, clsOf, clsCall, newBlk, allocOp, ev_tmp, Fr.ev, evs, evParts, ofV, ofA, ofS, ofSs, ofAs, nVar, AV.cells, rowOf_mk, rowT_mk, mkRowT_0, put_mk, put_none, upd_mk, withH_mk, keyOf_mk, ky_inj, pureOp, readOp, T.get_e, pFA, pFA1, pFA2, rLd, rdAB_row, oneCell_one, someAgg_s, hget_same, hget_hset_ite, pBin, binA, intOp_eql, intOp_neq, intOp_lss, intOp_leq, intOp_gtr, intOp_geq, pPick, List.length_cons, List.length_nil, List.getElem?_cons_zero, List.getElem?_cons_succ, List.drop_zero, List.drop_succ_cons, List.take_succ_cons, List.take_zero, Nat.zero_add, Nat.add_zero, Nat.reduceAdd, Nat.reduceLT, Nat.reduceLeDiff, Nat.reduceEqDiff, Nat.reduceMul, Nat.reduceSub, Nat.succ_eq_add_one, if_true, if_false, true_and, and_true, and_self, List.toList_toArray, Nat.add_eq, Nat.mul_eq, Nat.sub_eq, loadA_w, loadW_a, loadW_s, aSt_w, stOut_s, wrAB_row, ovr, List.set_cons_zero, List.set_cons_succ, allCell, ic_b, ic_i, ic_s, ic_np, ic_p, ic_g, ic_ns, ic_h, ic_sl, ic_nm, ic_m, ic_nf, ic_f, ic_ni, ic_if, pUn_not, callTo_s, heavyCall, target, actOp, pEx, List.nil_append, List.append_nil, pNil, pBuild, pBuild2, fieldsOk, buildParts, List.getElem?_nil, pMkF, binA, eqIn, eqGuardOk, pF, pF1, partA, beq_self_eq_true, bne_self_eq_false, decide_true, decide_false, Int.reduceBEq, Int.reduceBNe, Int.reduceLT, Int.reduceLE, Int.reduceEq, Int.reduceNeg, Int.reduceAdd, Int.reduceSub, Bool.and_true, Bool.true_and, Bool.and_false, Bool.false_and, stepOp, stHeavy, stV_mk, stB_mk, stO_mk, T.get_n, T.set_n, T.set_e, Nat.reduceDiv, Nat.reduceMod, ofNat_z, sz3, ag3, zr3, tg3, Tryz.underlying3, sz5, ag5, zr5, tg5, Tryz.underlying5, sz95, ag95, zr95, tg95, Tryz.underlying95, sz96, ag96, zr96, tg96, Tryz.underlying96, sz98, ag98, zr98, tg98, Tryz.underlying98, sz149, ag149, zr149, tg149, Tryz.underlying149, stepAny, wantedA_none, rCall, rLen, rLen1_str, rLen1_sl, lenA, Tget_set, natOf_c, Nat.left_eq_add, Nat.add_eq_left, Nat.testBit_eq_decide_div_mod_eq, Nat.reducePow, addMade_nil, addMade_cons, mad1_t, mad1_o, mad1_f, addAll_nil, addAll_cons, readsLeft_nil, readsLeft_cons, rdl1_t, rdl1_f, readsOk_nil, readsOk_cons, rok1_s, asideOk_nil, asideOk_cons, asd1_n, asd1_s, av_str, av_int, av_bool, av_ptr, av_sl, av_nils, av_nili, av_agg, av_if, avs_nil, avs_cons, Bool.and_self, hg, rd_bld1, aBuiltin, aUSD, hbl, us] <;> rfl))); (focus (simp only [↓reduceIte, Fr.ev, pureOp, pFA, pFA1, pFA2, List.getElem?_cons_zero, List.getElem?_cons_succ, Nat.zero_add, Nat.reduceEqDiff, Nat.reduceSub, Nat.add_eq, pNil, T.get_n, T.set_n, T.set_e, Nat.reduceDiv, Nat.reduceMod, sz96, Tryz.underlying98] <;> rfl)); (focus (simp only [put_mk, Nat.reduceLT, ↓reduceIte] <;> rfl)))
    | ((with_reducible apply g_read); (focus rfl); (focus rfl); (focus (first | rfl | (simp only [↓reduceIte, wantedA_eq, gBool_t, gBool_f, Bool.not_true, Bool.not_false, Bool.not_not, clsOf, clsCall, newBlk, allocOp, ev_tmp, Fr.ev, evs, evParts, ofV, ofA, ofS, ofSs, ofAs, nVar, AV.cells, rowOf_mk, rowT_mk, mkRowT_0, put_mk, put_none, upd_mk, withH_mk, keyOf_mk, ky_inj, pureOp, readOp, T.get_e, pFA, pFA1, pFA2, rLd, rdAB_row, oneCell_one, someAgg_s, hget_same, hget_hset_ite, pBin, binA, intOp_eql, intOp_neq, intOp_lss, intOp_leq, intOp_gtr, intOp_geq, pPick, List.length_cons, List.length_nil, List.getElem?_cons_zero, List.getElem?_cons_succ, List.drop_zero, List.drop_succ_cons, List.take_succ_cons, List.take_zero, Nat.zero_add, Nat.add_zero, Nat.reduceAdd, Nat.reduceLT, Nat.reduceLeDiff, Nat.reduceEqDiff, Nat.reduceMul, Nat.reduceSub, Nat.succ_eq_add_one, if_true, if_false, true_and, and_true, and_self, List.toList_toArray, Nat.add_eq, Nat.mul_eq, Nat.sub_eq, loadA_w, loadW_a, loadW_s, aSt_w, stOut_s, wrAB_row, ovr, List.set_cons_zero, List.set_cons_succ, allCell, ic_b, ic_i, ic_s, ic_np, ic_p, ic_g, ic_ns, ic_h, ic_sl, ic_nm, ic_m, ic_nf, ic_f, ic_ni, ic_if, pUn_not, callTo_s, heavyCall, target, actOp, pEx, List.nil_append, List.append_nil, pNil, pBuild, pBuild2, fieldsOk, buildParts, List.getElem?_nil, pMkF, binA, eqIn, eqGuardOk, pF, pF1, partA, beq_self_eq_true, bne_self_eq_false, decide_true, decide_false, Int.reduceBEq, Int.reduceBNe, Int.reduceLT, Int.reduceLE, Int.reduceEq, Int.reduceNeg, Int.reduceAdd, Int.reduceSub, Bool.and_true, Bool.true_and, Bool.and_false, Bool.false_and, stepOp, stHeavy, stV_mk, stB_mk, stO_mk, T.get_n, T.set_n, T.set_e, Nat.reduceDiv, Nat.reduceMod, ofNat_z, sz3, ag3, zr3, tg3, Tryz.underlying3, sz5, ag5, zr5, tg5, Tryz.underlying5, sz95, ag95, zr95, tg95, Tryz.underlying95, sz96, ag96, zr96, tg96, Tryz.underlying96, sz98, ag98, zr98, tg98, Tryz.underlying98, sz149, ag149, zr149, tg149, Tryz.underlying149, stepAny, wantedA_none, rCall, rLen, rLen1_str, rLen1_sl, lenA, Tget_set, natOf_c, Nat.left_eq_add, Nat.add_eq_left, Nat.testBit_eq_decide_div_mod_eq, Nat.reducePow, addMade_nil, addMade_cons, mad1_t, mad1_o, mad1_f, addAll_nil, addAll_cons, readsLeft_nil, readsLeft_cons, rdl1_t, rdl1_f, readsOk_nil, readsOk_cons, rok1_s, asideOk_nil, asideOk_cons, asd1_n, asd1_s, av_str, av_int, av_bool, av_ptr, av_sl, av_nils, av_nili, av_agg, av_if, avs_nil, avs_cons, Bool.and_self, hg, rd_bld1, aBuiltin, aUSD, hbl, us] <;> rfl))); (focus (simp only [↓reduceIte, Fr.ev, readOp, rLd, oneCell_one, List.getElem?_cons_zero, Nat.reduceEqDiff, Nat.reduceSub, loadA_w, loadW_s, T.get_n, T.set_n, T.set_e, Nat.reduceDiv, Nat.reduceMod, sz96, ag96, Tryz.underlying96, rCall, rLen, rLen1_sl, lenA, addMade_nil, hg, rd_bld1] <;> rfl)); (focus (simp only [put_mk, Nat.reduceLT, ↓reduceIte] <;> rfl)))
    | ((with_reducible apply g_alloc); (focus rfl); (focus rfl); (focus (first | rfl | (simp only [↓reduceIte, wantedA_eq, gBool_t, gBool_f, Bool.not_true, Bool.not_false, Bool.not_not, clsOf, clsCall, newBlk, allocOp, ev_tmp, Fr.ev, evs, evParts, ofV, ofA, ofS, ofSs, ofAs, nVar, AV.cells, rowOf_mk, rowT_mk, mkRowT_0, put_mk, put_none, upd_mk, withH_mk, keyOf_mk, ky_inj, pureOp, readOp, T.get_e, pFA, pFA1, pFA2, rLd, rdAB_row, oneCell_one, someAgg_s, hget_same, hget_hset_ite, pBin, binA, intOp_eql, intOp_neq, intOp_lss, intOp_leq, intOp_gtr, intOp_geq, pPick, List.length_cons, List.length_nil, List.getElem?_cons_zero, List.getElem?_cons_succ, List.drop_zero, List.drop_succ_cons, List.take_succ_cons, List.take_zero, Nat.zero_add, Nat.add_zero, Nat.reduceAdd, Nat.reduceLT, Nat.reduceLeDiff, Nat.reduceEqDiff, Nat.reduceMul, Nat.reduceSub, Nat.succ_eq_add_one, if_true, if_false, true_and, and_true, and_self, List.toList_toArray, Nat.add_eq, Nat.mul_eq, Nat.sub_eq, loadA_w, loadW_a, loadW_s, aSt_w, stOut_s, wrAB_row, ovr, List.set_cons_zero, List.set_cons_succ, allCell, ic_b, ic_i, ic_s, ic_np, ic_p, ic_g, ic_ns, ic_h, ic_sl, ic_nm, ic_m, ic_nf, ic_f, ic_ni, ic_if, pUn_not, callTo_s, heavyCall, target, actOp, pEx, List.nil_append, List.append_nil, pNil, pBuild, pBuild2, fieldsOk, buildParts, List.getElem?_nil, pMkF, binA, eqIn, eqGuardOk, pF, pF1, partA, beq_self_eq_true, bne_self_eq_false, decide_true, decide_false, Int.reduceBEq, Int.reduceBNe, Int.reduceLT, Int.reduceLE, Int.reduceEq, Int.reduceNeg, Int.reduceAdd, Int.reduceSub, Bool.and_true, Bool.true_and, Bool.and_false, Bool.false_and, stepOp, stHeavy, stV_mk, stB_mk, stO_mk, T.get_n, T.set_n, T.set_e, Nat.reduceDiv, Nat.reduceMod, ofNat_z, sz3, ag3, zr3, tg3, Tryz.underlying3, sz5, ag5, zr5, tg5, Tryz.underlying5, sz95, ag95, zr95, tg95, Tryz.underlying95, sz96, ag96, zr96, tg96, Tryz.underlying96, sz98, ag98, zr98, tg98, Tryz.underlying98, sz149, ag149, zr149, tg149, Tryz.underlying149, stepAny, wantedA_none, rCall, rLen, rLen1_str, rLen1_sl, lenA, Tget_set, natOf_c, Nat.left_eq_add, Nat.add_eq_left, Nat.testBit_eq_decide_div_mod_eq, Nat.reducePow, addMade_nil, addMade_cons, mad1_t, mad1_o, mad1_f, addAll_nil, addAll_cons, readsLeft_nil, readsLeft_cons, rdl1_t, rdl1_f, readsOk_nil, readsOk_cons, rok1_s, asideOk_nil, asideOk_cons, asd1_n, asd1_s, av_str, av_int, av_bool, av_ptr, av_sl, av_nils, av_nili, av_agg, av_if, avs_nil, avs_cons, Bool.and_self, hg, rd_bld1, aBuiltin, aUSD, hbl, us] <;> rfl))); (focus (simp only [keyOf_mk, Nat.add_zero, Nat.zero_add] <;> rfl)); (focus (simp only [↓reduceIte, wantedA_eq, gBool_t, gBool_f, Bool.not_true, Bool.not_false, Bool.not_not, clsOf, clsCall, newBlk, allocOp, ev_tmp, Fr.ev, evs, evParts, ofV, ofA, ofS, ofSs, ofAs, nVar, AV.cells, rowOf_mk, rowT_mk, mkRowT_0, put_mk, put_none, upd_mk, withH_mk, keyOf_mk, ky_inj, pureOp, readOp, T.get_e, pFA, pFA1, pFA2, rLd, rdAB_row, oneCell_one, someAgg_s, hget_same, hget_hset_ite, pBin, binA, intOp_eql, intOp_neq, intOp_lss, intOp_leq, intOp_gtr, intOp_geq, pPick, List.length_cons, List.length_nil, List.getElem?_cons_zero, List.getElem?_cons_succ, List.drop_zero, List.drop_succ_cons, List.take_succ_cons, List.take_zero, Nat.zero_add, Nat.add_zero, Nat.reduceAdd, Nat.reduceLT, Nat.reduceLeDiff, Nat.reduceEqDiff, Nat.reduceMul, Nat.reduceSub, Nat.succ_eq_add_one, if_true, if_false, true_and, and_true, and_self, List.toList_toArray, Nat.add_eq, Nat.mul_eq, Nat.sub_eq, loadA_w, loadW_a, loadW_s, aSt_w, stOut_s, wrAB_row, ovr, List.set_cons_zero, List.set_cons_succ, allCell, ic_b, ic_i, ic_s, ic_np, ic_p, ic_g, ic_ns, ic_h, ic_sl, ic_nm, ic_m, ic_nf, ic_f, ic_ni, ic_if, pUn_not, callTo_s, heavyCall, target, actOp, pEx, List.nil_append, List.append_nil, pNil, pBuild, pBuild2, fieldsOk, buildParts, List.getElem?_nil, pMkF, binA, eqIn, eqGuardOk, pF, pF1, partA, beq_self_eq_true, bne_self_eq_false, decide_true, decide_false, Int.reduceBEq, Int.reduceBNe, Int.reduceLT, Int.reduceLE, Int.reduceEq, Int.reduceNeg, Int.reduceAdd, Int.reduceSub, Bool.and_true, Bool.true_and, Bool.and_false, Bool.false_and, stepOp, stHeavy, stV_mk, stB_mk, stO_mk, T.get_n, T.set_n, T.set_e, Nat.reduceDiv, Nat.reduceMod, ofNat_z, sz3, ag3, zr3, tg3, Tryz.underlying3, sz5, ag5, zr5, tg5, Tryz.underlying5, sz95, ag95, zr95, tg95, Tryz.underlying95, sz96, ag96, zr96, tg96, Tryz.underlying96, sz98, ag98, zr98, tg98, Tryz.underlying98, sz149, ag149, zr149, tg149, Tryz.underlying149, stepAny, wantedA_none, rCall, rLen, rLen1_str, rLen1_sl, lenA, Tget_set, natOf_c, Nat.left_eq_add, Nat.add_eq_left, Nat.testBit_eq_decide_div_mod_eq, Nat.reducePow, addMade_nil, addMade_cons, mad1_t, mad1_o, mad1_f, addAll_nil, addAll_cons, readsLeft_nil, readsLeft_cons, rdl1_t, rdl1_f, readsOk_nil, readsOk_cons, rok1_s, asideOk_nil, asideOk_cons, asd1_n, asd1_s, av_str, av_int, av_bool, av_ptr, av_sl, av_nils, av_nili, av_agg, av_if, avs_nil, avs_cons, Bool.and_self, hg, rd_bld1, aBuiltin, aUSD, hbl, us] <;> rfl)); (focus (simp only [↓reduceIte, wantedA_eq, gBool_t, gBool_f, Bool.not_true, Bool.not_false, Bool.not_not, clsOf, clsCall, newBlk, allocOp, ev_tmp, Fr.ev, evs, evParts, ofV, ofA, ofS, ofSs, ofAs, nVar, AV.cells, rowOf_mk, rowT_mk, mkRowT_0, put_mk, put_none, upd_mk, withH_mk, keyOf_mk, ky_inj, pureOp, readOp, T.get_e, pFA, pFA1, pFA2, rLd, rdAB_row, oneCell_one, someAgg_s, hget_same, hget_hset_ite, pBin, binA, intOp_eql, intOp_neq, intOp_lss, intOp_leq, intOp_gtr, intOp_geq, pPick, List.length_cons, List.length_nil, List.getElem?_cons_zero, List.getElem?_cons_succ, List.drop_zero, List.drop_succ_cons, List.take_succ_cons, List.take_zero, Nat.zero_add, Nat.add_zero, Nat.reduceAdd, Nat.reduceLT, Nat.reduceLeDiff, Nat.reduceEqDiff, Nat.reduceMul, Nat.reduceSub, Nat.succ_eq_add_one, if_true, if_false, true_and, and_true, and_self, List.toList_toArray, Nat.add_eq, Nat.mul_eq, Nat.sub_eq, loadA_w, loadW_a, loadW_s, aSt_w, stOut_s, wrAB_row, ovr, List.set_cons_zero, List.set_cons_succ, allCell, ic_b, ic_i, ic_s, ic_np, ic_p, ic_g, ic_ns, ic_h, ic_sl, ic_nm, ic_m, ic_nf, ic_f, ic_ni, ic_if, pUn_not, callTo_s, heavyCall, target, actOp, pEx, List.nil_append, List.append_nil, pNil, pBuild, pBuild2, fieldsOk, buildParts, List.getElem?_nil, pMkF, binA, eqIn, eqGuardOk, pF, pF1, partA, beq_self_eq_true, bne_self_eq_false, decide_true, decide_false, Int.reduceBEq, Int.reduceBNe, Int.reduceLT, Int.reduceLE, Int.reduceEq, Int.reduceNeg, Int.reduceAdd, Int.reduceSub, Bool.and_true, Bool.true_and, Bool.and_false, Bool.false_and, stepOp, stHeavy, stV_mk, stB_mk, stO_mk, T.get_n, T.set_n, T.set_e, Nat.reduceDiv, Nat.reduceMod, ofNat_z, sz3, ag3, zr3, tg3, Tryz.underlying3, sz5, ag5, zr5, tg5, Tryz.underlying5, sz95, ag95, zr95, tg95, Tryz.underlying95, sz96, ag96, zr96, tg96, Tryz.underlying96, sz98, ag98, zr98, tg98, Tryz.underlying98, sz149, ag149, zr149, tg149, Tryz.underlying149, stepAny, wantedA_none, rCall, rLen, rLen1_str, rLen1_sl, lenA, Tget_set, natOf_c, Nat.left_eq_add, Nat.add_eq_left, Nat.testBit_eq_decide_div_mod_eq, Nat.reducePow, addMade_nil, addMade_cons, mad1_t, mad1_o, mad1_f, addAll_nil, addAll_cons, readsLeft_nil, readsLeft_cons, rdl1_t, rdl1_f, readsOk_nil, readsOk_cons, rok1_s, asideOk_nil, asideOk_cons, asd1_n, asd1_s, av_str, av_int, av_bool, av_ptr, av_sl, av_nils, av_nili, av_agg, av_if, avs_nil, avs_cons, Bool.and_self, hg, rd_bld1, aBuiltin, aUSD, hbl, us])); (focus (simp only [put_mk, put_none, Nat.reduceLT, ↓reduceIte, if_true, if_false] <;> rfl)))
    | ((with_reducible apply g_act); (focus rfl); (focus rfl); (focus rfl); (focus (first | rfl | (simp only [↓reduceIte, wantedA_eq, gBool_t, gBool_f, Bool.not_true, Bool.not_false, Bool.not_not, clsOf, clsCall, newBlk, allocOp, ev_tmp, Fr.ev, evs, evParts, ofV, ofA, ofS, ofSs, ofAs, nVar, AV.cells, rowOf_mk, rowT_mk, mkRowT_0, put_mk, put_none, upd_mk, withH_mk, keyOf_mk, ky_inj, pureOp, readOp, T.get_e, pFA, pFA1, pFA2, rLd, rdAB_row, oneCell_one, someAgg_s, hget_same, hget_hset_ite, pBin, binA, intOp_eql, intOp_neq, intOp_lss, intOp_leq, intOp_gtr, intOp_geq, pPick, List.length_cons, List.length_nil, List.getElem?_cons_zero, List.getElem?_cons_succ, List.drop_zero, List.drop_succ_cons, List.take_succ_cons, List.take_zero, Nat.zero_add, Nat.add_zero, Nat.reduceAdd, Nat.reduceLT, Nat.reduceLeDiff, Nat.reduceEqDiff, Nat.reduceMul, Nat.reduceSub, Nat.succ_eq_add_one, if_true, if_false, true_and, and_true, and_self, List.toList_toArray, Nat.add_eq, Nat.mul_eq, Nat.sub_eq, loadA_w, loadW_a, loadW_s, aSt_w, stOut_s, wrAB_row, ovr, List.set_cons_zero, List.set_cons_succ, allCell, ic_b, ic_i, ic_s, ic_np, ic_p, ic_g, ic_ns, ic_h, ic_sl, ic_nm, ic_m, ic_nf, ic_f, ic_ni, ic_if, pUn_not, callTo_s, heavyCall, target, actOp, pEx, List.nil_append, List.append_nil, pNil, pBuild, pBuild2, fieldsOk, buildParts, List.getElem?_nil, pMkF, binA, eqIn, eqGuardOk, pF, pF1, partA, beq_self_eq_true, bne_self_eq_false, decide_true, decide_false, Int.reduceBEq, Int.reduceBNe, Int.reduceLT, Int.reduceLE, Int.reduceEq, Int.reduceNeg, Int.reduceAdd, Int.reduceSub, Bool.and_true, Bool.true_and, Bool.and_false, Bool.false_and, stepOp, stHeavy, stV_mk, stB_mk, stO_mk, T.get_n, T.set_n, T.set_e, Nat.reduceDiv, Nat.reduceMod, ofNat_z, sz3, ag3, zr3, tg3, Tryz.underlying3, sz5, ag5, zr5, tg5, Tryz.underlying5, sz95, ag95, zr95, tg95, Tryz.underlying95, sz96, ag96, zr96, tg96, Tryz.underlying96, sz98, ag98, zr98, tg98, Tryz.underlying98, sz149, ag149, zr149, tg149, Tryz.underlying149, stepAny, wantedA_none, rCall, rLen, rLen1_str, rLen1_sl, lenA, Tget_set, natOf_c, Nat.left_eq_add, Nat.add_eq_left, Nat.testBit_eq_decide_div_mod_eq, Nat.reducePow, addMade_nil, addMade_cons, mad1_t, mad1_o, mad1_f, addAll_nil, addAll_cons, readsLeft_nil, readsLeft_cons, rdl1_t, rdl1_f, readsOk_nil, readsOk_cons, rok1_s, asideOk_nil, asideOk_cons, asd1_n, asd1_s, av_str, av_int, av_bool, av_ptr, av_sl, av_nils, av_nili, av_agg, av_if, avs_nil, avs_cons, Bool.and_self, hg, rd_bld1, aBuiltin, aUSD, hbl, us] <;> rfl))); (focus (simp only [heavy, ↓reduceIte, Fr.ev, evs, withH_mk, Nat.reduceEqDiff, Nat.reduceSub, heavyCall, T.get_n, T.set_n, T.set_e, Nat.reduceDiv, Nat.reduceMod, addMade_nil, aBuiltin, aUSD, hbl, us] <;> rfl)); (focus (simp only [put_mk, Nat.reduceLT, ↓reduceIte] <;> rfl)); (focus (simp only [↓reduceIte, Fr.ev, readOp, rLd, oneCell_one, List.getElem?_cons_zero, Nat.reduceEqDiff, Nat.reduceSub, loadA_w, loadW_s, decide_true, decide_false, T.get_n, T.set_n, T.set_e, Nat.reduceDiv, Nat.reduceMod, sz96, ag96, Tryz.underlying96, rCall, rLen, rLen1_sl, lenA, Nat.testBit_eq_decide_div_mod_eq, Nat.reducePow, addMade_nil, readsLeft_nil, readsLeft_cons, rdl1_t, rdl1_f, readsOk_nil, readsOk_cons, rok1_s, av_int, av_sl, Bool.and_self, hg, rd_bld1] <;> rfl)); (focus (simp only [addMade_nil, asideOk_nil] <;> rfl)))
    | ((with_reducible apply r_drawL); (focus kernel_rfl); (focus kernel_rfl); (focus (first | exact Nat.le_of_ble_eq_true rfl | (simp only [List.length_cons, List.length_nil]; omega))))
    | ((with_reducible apply r_end); focus (simp only [Nat.zero_add] <;> rfl))
    | ((with_reducible (first | apply r_move | apply r_assign)); (focus (simp only [Tget_set, T.get_n, T.get_e, Nat.reduceEqDiff, Nat.reduceDiv, Nat.reduceMod, Nat.reduceSub, ↓reduceIte, if_true, if_false] <;> rfl)); (focus (exact Nat.le_of_ble_eq_true rfl)))
    | ((with_reducible apply r_condT); (focus (simp only [Tget_set, T.get_n, T.get_e, Nat.reduceEqDiff, Nat.reduceDiv, Nat.reduceMod, Nat.reduceSub, ↓reduceIte, if_true, if_false] <;> rfl)))
    | ((with_reducible (first | apply r_any | apply r_cond)); focus (simp only [↓reduceIte, clsOf, Fr.ev, ofV, ofA, ofS, put_mk, pureOp, Nat.reduceLT, Nat.reduceEqDiff, Nat.reduceSub, stepOp, stV_mk, T.set_n, T.set_e, Nat.reduceDiv, Nat.reduceMod, stepAny, wantedA_none] <;> rfl))
    | (with_reducible rw [ifQ_t])
    | (with_reducible rw [ifQ_f])
    | (with_reducible refine ifQ_intro ?_ ?_ <;> intro hb))
    subst hQ
    refine ret_back (by simp only [Tryz.results37, resultOf, resultsA, resultA, List.toList_toArray, Fr.ev, T.get_n, Nat.reduceDiv, Nat.reduceMod, Nat.reduceSub, Nat.reduceEqDiff, ↓reduceIte] <;> rfl) ?_
    refine ⟨_, rfl, fun i hi => ?_⟩
    rw [hget_hset, if_neg (by omega)]

end Go.Proofs.YtlbjmpbgnbpcoaaGreatDoor

namespace Go.Proofs.YtlbjmpbgnbpcoaaGreatDoor
open Go Go.Ai
set_option maxRecDepth 100000

section
variable {S : FuncId → List AV → St → Out → Prop}
theorem val_at {h h1 : Heap} {F : Nat} {a : AV} {L : List (List AV)} (hw : Wf ⟨h, F⟩) (hl : LstP h ksV a L) (hs : SameH h h1) {i : Nat} (hi : i < L.length) : ∃ b o eo cap k n t, a = .slice b o eo L.length cap ∧ b < ky F 0 ∧ L[i]? = some [.int .i64 k, .int .i64 n, .str t] ∧ in64 k ∧ in64 n ∧ t.length ≤ maxLen ∧ rdAB (hget h1 b) (o + i * 3) 3 = some [.int .i64 k, .int .i64 n, .str t] := by
  obtain ⟨b, o, eo, cap, e, h0, _⟩ := hl.at hi
  obtain ⟨k, n, t, el, q1, q2, q3⟩ := cks_V64 (hl.ok hi)
  rw [el] at h0
  exact ⟨b, o, eo, cap, k, n, t, e, rd_low hw h0, by rw [List.getElem?_eq_getElem hi, el], q1, q2, q3, hs.rd h0⟩
theorem itoa_len {n : Int} (h : in64 n) : (Lib.itoa n).length ≤ 21 := Lib.itoa_length_le n h.1 h.2
theorem word_len (k : Int) : (wordL k).length ≤ 10 := by unfold wordL; split <;> decide
theorem printC_at {L : List (List AV)} {i : Nat} {k n : Int} {t : List UInt8} (hx : L[i]? = some [.int .i64 k, .int .i64 n, .str t]) (q c p z : Int) : printR q c p z (L.take (i + 1)) = printR q c p z (L.take i) ++ [32] ++ printV k n t := by
  rw [List.take_add_one, hx]; exact printR_snoc q c p z _ _
theorem printR_len {h : Heap} {a : AV} {L : List (List AV)} {q k c p : Int} (hl : LstP h ksV a L) (hq : in64 q) (hc : in64 c) (hp : in64 p) : ∀ i, i ≤ L.length → (printR q k c p (L.take i)).length ≤ 100 + 131 * i
  | 0, _ => by
    have h1 := itoa_len hq; have h2 := itoa_len hc; have h3 := itoa_len hp; have h4 := word_len k
    rw [List.take_zero, printR_nil]; simp only [List.length_append, List.length_cons, List.length_nil]; omega
  | i + 1, hi => by
    have ih := printR_len (k := k) hl hq hc hp i (by omega)
    obtain ⟨k2, n, t, el, _, q2, _⟩ := cks_V64 (hl.ok (show i < L.length by omega))
    have hx : L[i]? = some [.int .i64 k2, .int .i64 n, .str t] := by rw [List.getElem?_eq_getElem (by omega), el]
    have := printV_len (k := k2) (t := t) q2.1 q2.2 (itoa_len q2)
    rw [printC_at hx]; simp only [List.length_append, List.length_cons, List.length_nil]; omega
theorem k_join {h h1 : Heap} {F : Nat} {a : AV} {ss : List (List UInt8)} {sep : List UInt8} (hl : LstP h ksT a (tL ss)) (hp : 0 < ss.length) (hm : ss.length ≤ 1000000) (hj : (Lib.join ss sep).length ≤ 1000000000) (hs : SameH h h1) : CallF.fn (KT S) 44 [a, .str sep] ⟨h1, F⟩ = some [.val (.str (Lib.join ss sep)) ⟨h1, F⟩] :=
  kt_fn ((rfl : _ = spJn [a, .str sep] ⟨h1, F⟩).trans (by simp only [spJn, txtOf_eq (hl.same hs)])) (snd_join noNum Tryz.func44 rfl joinC (hl.same hs) hp hm hj)
theorem by9 : bytesT Tryz.prog 9 = some 16 := by kernel_rfl
theorem zo9 : zeroOk Tryz.prog 9 1 16 = true := by kernel_rfl
theorem nBS_s4 {key : Nat} {a b c d : List UInt8} : nBS Tryz.prog key 4 (some (.slice 9)) (some [(0, .str a), (1, .str b), (2, .str c), (3, .str d)]) = some (.slice key 0 0 4 (some 4), mkRow [.str a, .str b, .str c, .str d] 1) := by
  have tg : tagA Tryz.prog 9 = 0 := by kernel_rfl
  simp only [nBS, nBS2, sz9, zr9, repl, AV.cells, nBS3, rowT_mk, buildArr, tg, mkRowT_0]
  rfl
theorem nBS_s1 {key : Nat} {a : List UInt8} : nBS Tryz.prog key 1 (some (.slice 9)) (some [(0, .str a)]) = some (.slice key 0 0 1 (some 1), mkRow [.str a] 1) := by
  have tg : tagA Tryz.prog 9 = 0 := by kernel_rfl
  simp only [nBS, nBS2, sz9, zr9, repl, AV.cells, nBS3, rowT_mk, buildArr, tg, mkRowT_0]
  rfl
theorem src_one {h : Heap} {k : Nat} {s : List UInt8} (hg : hget h k = some (mkRow [.str s] 1)) : srcCells h 1 (.slice k 0 0 1 (some 1)) = some ((tL [s]).length, (tL [s]).flatten) := by
  simp only [srcCells, readCells_eq, hg, rdAB_row]; rfl
theorem tL_one (ss : List (List UInt8)) : ∀ x ∈ tL ss, x.length = 1 := fun x hx => by obtain ⟨s, _, rfl⟩ := List.mem_map.1 hx; rfl
theorem tL_app (a b : List (List UInt8)) : tL (a ++ b) = tL a ++ tL b := by simp [tL]
theorem own_lst {h : Heap} {F c : Nat} {l : AV} {ss : List (List UInt8)} (hO : OwnL h F c 1 l (tL ss)) (hm : ss.length ≤ 1000000) (hx : ∀ s ∈ ss, s.length ≤ maxLen) : LstP h ksT l (tL ss) := by
  have mxl : maxLen = 9223372036854775807 := by decide
  refine OwnL.lst (ks := ksT) hO (fun x hx2 => ?_) (by rw [tL_len]; omega)
  obtain ⟨s, hs, rfl⟩ := List.mem_map.1 hx2
  exact ⟨_, _, rfl, hx s hs, rfl⟩
set_option maxHeartbeats 4000000 in
theorem rprint (h : Heap) (F : Nat) (q k c p : Int) (a : AV) (L : List (List AV)) (hL : LstP h ksV a L) (hq : in64 q) (hc : in64 c) (hp : in64 p) (hlen : L.length ≤ 90000) : Snd Tryz.prog GL 12 [.agg [.int .i64 q, .int .i64 k, .int .i64 c, .int .i64 p, a]] ⟨h, F⟩ [.val (.str (printR q k c p L)) ⟨h, F⟩] := by
  refine snd_val (by simp [Kin]) fun hw => ?_
  refine sndQ_clean fun h0 hw0 hlow hcl => ?_
  have hS0 := hlow.same hw
  replace hL := hL.same hS0
  have mxl : maxLen = 9223372036854775807 := by decide
  have lA := fun (h2 : Heap) => rLen1_L (h2 := h2) Tryz.underlying23 hL
  have avs := av_self_L hL
  refine sndQ_body (K := (KT S0)) kt_ok mixed noNum (m := L.length + 1) Tryz.func12 ?_
  generalize hQ : retQ _ _ _ _ _ _ = Q0
  refine body_go (c := Tryz.f12.body.getD .skip) (n := 40) rfl rfl (by simp only [↓reduceIte, T.setList, T.set_e] <;> rfl) ?_
  simp only [Tryz.f12, Option.getD_some]
  repeat' (first
  | with_reducible refine r_seq ?_
  | with_reducible refine r_next ?_
  | with_reducible refine r_block ?_
  | with_reducible refine r_seq_exit ?_
  | with_reducible refine r_seq_ret ?_
  | with_reducible refine r_blk_n ?_
  | with_reducible refine r_blk_ret ?_
  | with_reducible refine r_blk_hit ?_
  | with_reducible refine r_blk_miss rfl ?_
  | with_reducible refine r_skip ?_
  | with_reducible refine r_exit ?_
  | with_reducible refine r_ret ?_
  | with_reducible refine r_rq_exit ?_
  | with_reducible refine r_rq_ret ?_
  | ((with_reducible apply r_regA); (focus (simp only [List.append_eq, List.cons_append, List.nil_append] <;> rfl)); (focus (first | exact Nat.le_of_ble_eq_true rfl | (simp only [List.length_cons, List.length_nil]; omega))))
  | ((with_reducible refine r_reg (List.toList_toArray) ?_ ?_); focus (first | exact Nat.le_of_ble_eq_true rfl | (simp only [List.length_cons, List.length_nil]; omega)))
  | ((with_reducible apply (r_drawG (js := [(0, 0), (1, 1), (3, 0), (4, 8), (6, 0), (7, 64), (9, 0), (10, 512), (2, 3), (5, 31), (8, 255), (11, 2047), (12, 4095), (13, 8191)]))); (focus kernel_rfl); (focus kernel_rfl); (focus (first | exact Nat.le_of_ble_eq_true rfl | (simp only [List.length_cons, List.length_nil]; omega))))
  | ((with_reducible apply g_end); (focus (simp only [List.length_cons, List.length_nil, Nat.reduceAdd, Nat.zero_add] <;> rfl)); simp only [withH_mk, addAll_nil, addAll_cons, ↓reduceIte, withH_mk, ky_inj, hget_hset_ite, Nat.reduceAdd, Nat.reduceEqDiff, Nat.reduceSub, T.set_n, T.set_e, Nat.reduceDiv, Nat.reduceMod, mad1_t, addAll_nil, addAll_cons, hcl _ (ky_le F 14)])
  | ((with_reducible apply g_undef); (focus rfl); (focus (simp only [↓reduceIte, Nat.reduceEqDiff, Nat.reduceSub, T.set_n, T.set_e, Nat.reduceDiv, Nat.reduceMod, wantedA_none] <;> rfl)); (focus (simp only [put_mk, put_none, Nat.reduceLT, ↓reduceIte, if_true, if_false] <;> rfl)))
  | ((with_reducible apply g_pure); (focus rfl); (focus rfl); (focus (first | rfl | (simp only [↓reduceIte, wantedA_eq, gBool_t, gBool_f, Bool.not_true, Bool.not_false, Bool.not_not, clsOf, clsCall, newBlk, allocOp, ev_tmp, Fr.ev, evs, evParts, ofV, ofA, ofS, ofSs, ofAs, nVar, AV.cells, rowOf_mk, rowT_mk, mkRowT_0, put_mk, put_none, upd_mk, withH_mk, keyOf_mk, ky_inj, pureOp, readOp, T.get_e, pFA, pFA1, pFA2, rLd, rdAB_row, oneCell_one, someAgg_s, hget_same, hget_hset_ite, pBin, binA, intOp_eql, intOp_neq, intOp_lss, intOp_leq, intOp_gtr, intOp_geq, pPick, List.length_cons, List.length_nil, List.getElem?_cons_zero, List.getElem?_cons_succ, List.drop_zero, List.drop_succ_cons, List.take_succ_cons, List.take_zero, Nat.zero_add, Nat.add_zero, Nat.reduceAdd, Nat.reduceLT, Nat.reduceLeDiff, Nat.reduceEqDiff, Nat.reduceMul, Nat.reduceSub, Nat.succ_eq_add_one, if_true, if_false, true_and, and_true, and_self, List.toList_toArray, Nat.add_eq, Nat.mul_eq, Nat.sub_eq, loadA_w, loadW_a, loadW_s, aSt_w, stOut_s, wrAB_row, ovr, List.set_cons_zero, List.set_cons_succ, allCell, ic_b, ic_i, ic_s, ic_np, ic_p, ic_g, ic_ns, ic_h, ic_sl, ic_nm, ic_m, ic_nf, ic_f, ic_ni, ic_if, pUn_not, callTo_s, heavyCall, target, actOp, pEx, List.nil_append, List.append_nil, pNil, pBuild, pBuild2, fieldsOk, buildParts, List.getElem?_nil, pMkF, binA, eqIn, eqGuardOk, pF, pF1, partA, beq_self_eq_true, bne_self_eq_false, decide_true, decide_false, Int.reduceBEq, Int.reduceBNe, Int.reduceLT, Int.reduceLE, Int.reduceEq, Int.reduceNeg, Int.reduceAdd, Int.reduceSub, Bool.and_true, Bool.true_and, Bool.and_false, Bool.false_and, stepOp, stHeavy, stV_mk, stB_mk, stO_mk, T.get_n, T.set_n, T.set_e, Nat.reduceDiv, Nat.reduceMod, ofNat_z, sz2, ag2, zr2, tg2, Tryz.underlying2, sz3, ag3, zr3, tg3, Tryz.underlying3, sz9, ag9, zr9, tg9, Tryz.underlying9, sz23, ag23, zr23, tg23, Tryz.underlying23, sz25, ag25, zr25, tg25, Tryz.underlying25, sz36, ag36, zr36, tg36, Tryz.underlying36, sz79, ag79, zr79, tg79, Tryz.underlying79, stepAny, wantedA_none, rCall, rLen, rLen1_str, rLen1_sl, lenA, Tget_set, natOf_c, Nat.left_eq_add, Nat.add_eq_left, Nat.testBit_eq_decide_div_mod_eq, Nat.reducePow, addMade_nil, addMade_cons, mad1_t, mad1_o, mad1_f, addAll_nil, addAll_cons, readsLeft_nil, readsLeft_cons, rdl1_t, rdl1_f, readsOk_nil, readsOk_cons, rok1_s, asideOk_nil, asideOk_cons, asd1_n, asd1_s, av_str, av_int, av_bool, av_ptr, av_sl, av_nils, av_nili, av_agg, av_if, avs_nil, avs_cons, Bool.and_self, k_pdigits hq, k_pdigits hc, k_pdigits hp, k_pword, nBS_s4, hcl _ (ky_le F 14)] <;> rfl))); (focus (simp only [↓reduceIte, Fr.ev, pureOp, pFA, pFA1, pFA2, List.getElem?_cons_zero, List.getElem?_cons_succ, Nat.zero_add, Nat.add_zero, Nat.reduceEqDiff, Nat.reduceSub, Nat.add_eq, T.get_n, T.set_n, T.set_e, Nat.reduceDiv, Nat.reduceMod, sz2, sz3, Tryz.underlying25] <;> rfl)); (focus (simp only [put_mk, Nat.reduceLT, ↓reduceIte] <;> rfl)))
  | ((with_reducible apply g_read); (focus rfl); (focus rfl); (focus (first | rfl | (simp only [↓reduceIte, wantedA_eq, gBool_t, gBool_f, Bool.not_true, Bool.not_false, Bool.not_not, clsOf, clsCall, newBlk, allocOp, ev_tmp, Fr.ev, evs, evParts, ofV, ofA, ofS, ofSs, ofAs, nVar, AV.cells, rowOf_mk, rowT_mk, mkRowT_0, put_mk, put_none, upd_mk, withH_mk, keyOf_mk, ky_inj, pureOp, readOp, T.get_e, pFA, pFA1, pFA2, rLd, rdAB_row, oneCell_one, someAgg_s, hget_same, hget_hset_ite, pBin, binA, intOp_eql, intOp_neq, intOp_lss, intOp_leq, intOp_gtr, intOp_geq, pPick, List.length_cons, List.length_nil, List.getElem?_cons_zero, List.getElem?_cons_succ, List.drop_zero, List.drop_succ_cons, List.take_succ_cons, List.take_zero, Nat.zero_add, Nat.add_zero, Nat.reduceAdd, Nat.reduceLT, Nat.reduceLeDiff, Nat.reduceEqDiff, Nat.reduceMul, Nat.reduceSub, Nat.succ_eq_add_one, if_true, if_false, true_and, and_true, and_self, List.toList_toArray, Nat.add_eq, Nat.mul_eq, Nat.sub_eq, loadA_w, loadW_a, loadW_s, aSt_w, stOut_s, wrAB_row, ovr, List.set_cons_zero, List.set_cons_succ, allCell, ic_b, ic_i, ic_s, ic_np, ic_p, ic_g, ic_ns, ic_h, ic_sl, ic_nm, ic_m, ic_nf, ic_f, ic_ni, ic_if, pUn_not, callTo_s, heavyCall, target, actOp, pEx, List.nil_append, List.append_nil, pNil, pBuild, pBuild2, fieldsOk, buildParts, List.getElem?_nil, pMkF, binA, eqIn, eqGuardOk, pF, pF1, partA, beq_self_eq_true, bne_self_eq_false, decide_true, decide_false, Int.reduceBEq, Int.reduceBNe, Int.reduceLT, Int.reduceLE, Int.reduceEq, Int.reduceNeg, Int.reduceAdd, Int.reduceSub, Bool.and_true, Bool.true_and, Bool.and_false, Bool.false_and, stepOp, stHeavy, stV_mk, stB_mk, stO_mk, T.get_n, T.set_n, T.set_e, Nat.reduceDiv, Nat.reduceMod, ofNat_z, sz2, ag2, zr2, tg2, Tryz.underlying2, sz3, ag3, zr3, tg3, Tryz.underlying3, sz9, ag9, zr9, tg9, Tryz.underlying9, sz23, ag23, zr23, tg23, Tryz.underlying23, sz25, ag25, zr25, tg25, Tryz.underlying25, sz36, ag36, zr36, tg36, Tryz.underlying36, sz79, ag79, zr79, tg79, Tryz.underlying79, stepAny, wantedA_none, rCall, rLen, rLen1_str, rLen1_sl, lenA, Tget_set, natOf_c, Nat.left_eq_add, Nat.add_eq_left, Nat.testBit_eq_decide_div_mod_eq, Nat.reducePow, addMade_nil, addMade_cons, mad1_t, mad1_o, mad1_f, addAll_nil, addAll_cons, readsLeft_nil, readsLeft_cons, rdl1_t, rdl1_f, readsOk_nil, readsOk_cons, rok1_s, asideOk_nil, asideOk_cons, asd1_n, asd1_s, av_str, av_int, av_bool, av_ptr, av_sl, av_nils, av_nili, av_agg, av_if, avs_nil, avs_cons, Bool.and_self, k_pdigits hq, k_pdigits hc, k_pdigits hp, k_pword, nBS_s4, hcl _ (ky_le F 14)] <;> rfl))); (focus (simp only [↓reduceIte, Fr.ev, readOp, rLd, rdAB_row, oneCell_one, hget_same, List.length_cons, List.length_nil, List.drop_zero, List.drop_succ_cons, List.take_succ_cons, List.take_zero, Nat.zero_add, Nat.reduceAdd, Nat.reduceLeDiff, Nat.reduceEqDiff, Nat.reduceSub, loadA_w, loadW_s, T.get_n, T.set_n, T.set_e, Nat.reduceDiv, Nat.reduceMod, sz2, ag2, sz3, ag3, addMade_nil] <;> rfl)); (focus (simp only [put_mk, Nat.reduceLT, ↓reduceIte] <;> rfl)))
  | ((with_reducible apply g_alloc); (focus rfl); (focus rfl); (focus (first | rfl | (simp only [↓reduceIte, wantedA_eq, gBool_t, gBool_f, Bool.not_true, Bool.not_false, Bool.not_not, clsOf, clsCall, newBlk, allocOp, ev_tmp, Fr.ev, evs, evParts, ofV, ofA, ofS, ofSs, ofAs, nVar, AV.cells, rowOf_mk, rowT_mk, mkRowT_0, put_mk, put_none, upd_mk, withH_mk, keyOf_mk, ky_inj, pureOp, readOp, T.get_e, pFA, pFA1, pFA2, rLd, rdAB_row, oneCell_one, someAgg_s, hget_same, hget_hset_ite, pBin, binA, intOp_eql, intOp_neq, intOp_lss, intOp_leq, intOp_gtr, intOp_geq, pPick, List.length_cons, List.length_nil, List.getElem?_cons_zero, List.getElem?_cons_succ, List.drop_zero, List.drop_succ_cons, List.take_succ_cons, List.take_zero, Nat.zero_add, Nat.add_zero, Nat.reduceAdd, Nat.reduceLT, Nat.reduceLeDiff, Nat.reduceEqDiff, Nat.reduceMul, Nat.reduceSub, Nat.succ_eq_add_one, if_true, if_false, true_and, and_true, and_self, List.toList_toArray, Nat.add_eq, Nat.mul_eq, Nat.sub_eq, loadA_w, loadW_a, loadW_s, aSt_w, stOut_s, wrAB_row, ovr, List.set_cons_zero, List.set_cons_succ, allCell, ic_b, ic_i, ic_s, ic_np, ic_p, ic_g, ic_ns, ic_h, ic_sl, ic_nm, ic_m, ic_nf, ic_f, ic_ni, ic_if, pUn_not, callTo_s, heavyCall, target, actOp, pEx, List.nil_append, List.append_nil, pNil, pBuild, pBuild2, fieldsOk, buildParts, List.getElem?_nil, pMkF, binA, eqIn, eqGuardOk, pF, pF1, partA, beq_self_eq_true, bne_self_eq_false, decide_true, decide_false, Int.reduceBEq, Int.reduceBNe, Int.reduceLT, Int.reduceLE, Int.reduceEq, Int.reduceNeg, Int.reduceAdd, Int.reduceSub, Bool.and_true, Bool.true_and, Bool.and_false, Bool.false_and, stepOp, stHeavy, stV_mk, stB_mk, stO_mk, T.get_n, T.set_n, T.set_e, Nat.reduceDiv, Nat.reduceMod, ofNat_z, sz2, ag2, zr2, tg2, Tryz.underlying2, sz3, ag3, zr3, tg3, Tryz.underlying3, sz9, ag9, zr9, tg9, Tryz.underlying9, sz23, ag23, zr23, tg23, Tryz.underlying23, sz25, ag25, zr25, tg25, Tryz.underlying25, sz36, ag36, zr36, tg36, Tryz.underlying36, sz79, ag79, zr79, tg79, Tryz.underlying79, stepAny, wantedA_none, rCall, rLen, rLen1_str, rLen1_sl, lenA, Tget_set, natOf_c, Nat.left_eq_add, Nat.add_eq_left, Nat.testBit_eq_decide_div_mod_eq, Nat.reducePow, addMade_nil, addMade_cons, mad1_t, mad1_o, mad1_f, addAll_nil, addAll_cons, readsLeft_nil, readsLeft_cons, rdl1_t, rdl1_f, readsOk_nil, readsOk_cons, rok1_s, asideOk_nil, asideOk_cons, asd1_n, asd1_s, av_str, av_int, av_bool, av_ptr, av_sl, av_nils, av_nili, av_agg, av_if, avs_nil, avs_cons, Bool.and_self, k_pdigits hq, k_pdigits hc, k_pdigits hp, k_pword, nBS_s4, hcl _ (ky_le F 14)] <;> rfl))); (focus (simp only [keyOf_mk] <;> rfl)); (focus (simp only [↓reduceIte, allocOp, Fr.ev, evParts, Nat.reduceAdd, Nat.reduceEqDiff, Nat.reduceSub, T.get_n, T.set_n, T.set_e, Nat.reduceDiv, Nat.reduceMod, Tryz.underlying36, nBS_s4] <;> rfl)); (focus (simp only [↓reduceIte, ky_inj, hget_hset_ite, Nat.reduceAdd, Nat.reduceEqDiff, hcl _ (ky_le F 14)])); (focus (simp only [put_mk, Nat.reduceLT, ↓reduceIte] <;> rfl)))
  | ((with_reducible apply g_act); (focus rfl); (focus rfl); (focus rfl); (focus (first | rfl | (simp only [↓reduceIte, wantedA_eq, gBool_t, gBool_f, Bool.not_true, Bool.not_false, Bool.not_not, clsOf, clsCall, newBlk, allocOp, ev_tmp, Fr.ev, evs, evParts, ofV, ofA, ofS, ofSs, ofAs, nVar, AV.cells, rowOf_mk, rowT_mk, mkRowT_0, put_mk, put_none, upd_mk, withH_mk, keyOf_mk, ky_inj, pureOp, readOp, T.get_e, pFA, pFA1, pFA2, rLd, rdAB_row, oneCell_one, someAgg_s, hget_same, hget_hset_ite, pBin, binA, intOp_eql, intOp_neq, intOp_lss, intOp_leq, intOp_gtr, intOp_geq, pPick, List.length_cons, List.length_nil, List.getElem?_cons_zero, List.getElem?_cons_succ, List.drop_zero, List.drop_succ_cons, List.take_succ_cons, List.take_zero, Nat.zero_add, Nat.add_zero, Nat.reduceAdd, Nat.reduceLT, Nat.reduceLeDiff, Nat.reduceEqDiff, Nat.reduceMul, Nat.reduceSub, Nat.succ_eq_add_one, if_true, if_false, true_and, and_true, and_self, List.toList_toArray, Nat.add_eq, Nat.mul_eq, Nat.sub_eq, loadA_w, loadW_a, loadW_s, aSt_w, stOut_s, wrAB_row, ovr, List.set_cons_zero, List.set_cons_succ, allCell, ic_b, ic_i, ic_s, ic_np, ic_p, ic_g, ic_ns, ic_h, ic_sl, ic_nm, ic_m, ic_nf, ic_f, ic_ni, ic_if, pUn_not, callTo_s, heavyCall, target, actOp, pEx, List.nil_append, List.append_nil, pNil, pBuild, pBuild2, fieldsOk, buildParts, List.getElem?_nil, pMkF, binA, eqIn, eqGuardOk, pF, pF1, partA, beq_self_eq_true, bne_self_eq_false, decide_true, decide_false, Int.reduceBEq, Int.reduceBNe, Int.reduceLT, Int.reduceLE, Int.reduceEq, Int.reduceNeg, Int.reduceAdd, Int.reduceSub, Bool.and_true, Bool.true_and, Bool.and_false, Bool.false_and, stepOp, stHeavy, stV_mk, stB_mk, stO_mk, T.get_n, T.set_n, T.set_e, Nat.reduceDiv, Nat.reduceMod, ofNat_z, sz2, ag2, zr2, tg2, Tryz.underlying2, sz3, ag3, zr3, tg3, Tryz.underlying3, sz9, ag9, zr9, tg9, Tryz.underlying9, sz23, ag23, zr23, tg23, Tryz.underlying23, sz25, ag25, zr25, tg25, Tryz.underlying25, sz36, ag36, zr36, tg36, Tryz.underlying36, sz79, ag79, zr79, tg79, Tryz.underlying79, stepAny, wantedA_none, rCall, rLen, rLen1_str, rLen1_sl, lenA, Tget_set, natOf_c, Nat.left_eq_add, Nat.add_eq_left, Nat.testBit_eq_decide_div_mod_eq, Nat.reducePow, addMade_nil, addMade_cons, mad1_t, mad1_o, mad1_f, addAll_nil, addAll_cons, readsLeft_nil, readsLeft_cons, rdl1_t, rdl1_f, readsOk_nil, readsOk_cons, rok1_s, asideOk_nil, asideOk_cons, asd1_n, asd1_s, av_str, av_int, av_bool, av_ptr, av_sl, av_nils, av_nili, av_agg, av_if, avs_nil, avs_cons, Bool.and_self, k_pdigits hq, k_pdigits hc, k_pdigits hp, k_pword, nBS_s4, hcl _ (ky_le F 14)] <;> rfl))); (focus (simp only [heavy, ↓reduceIte, Fr.ev, evs, withH_mk, Nat.reduceEqDiff, Nat.reduceSub, callTo_s, heavyCall, target, List.nil_append, List.append_nil, T.get_n, T.set_n, T.set_e, Nat.reduceDiv, Nat.reduceMod, addMade_nil, k_pdigits hq, k_pdigits hc, k_pdigits hp, k_pword] <;> rfl)); (focus (simp only [put_mk, Nat.reduceLT, ↓reduceIte] <;> rfl)); (focus (simp only [↓reduceIte, Fr.ev, readOp, rLd, rdAB_row, oneCell_one, hget_same, List.length_cons, List.length_nil, List.drop_zero, List.drop_succ_cons, List.take_succ_cons, List.take_zero, Nat.zero_add, Nat.reduceAdd, Nat.reduceLeDiff, Nat.reduceEqDiff, Nat.reduceSub, loadA_w, loadW_s, decide_true, decide_false, T.get_n, T.set_n, T.set_e, Nat.reduceDiv, Nat.reduceMod, sz3, ag3, Nat.testBit_eq_decide_div_mod_eq, Nat.reducePow, addMade_nil, readsLeft_nil, readsLeft_cons, rdl1_t, rdl1_f, readsOk_nil, readsOk_cons, rok1_s, av_int, Bool.and_self] <;> rfl)); (focus (simp only [addMade_nil, asideOk_nil] <;> rfl)))
  | ((with_reducible apply r_drawL); (focus kernel_rfl); (focus kernel_rfl); (focus (first | exact Nat.le_of_ble_eq_true rfl | (simp only [List.length_cons, List.length_nil]; omega))))
  | ((with_reducible apply r_end); focus (simp only [Nat.reduceAdd, Nat.zero_add] <;> rfl))
  | ((with_reducible (first | apply r_move | apply r_assign)); (focus (simp only [Tget_set, T.get_n, T.get_e, Nat.reduceEqDiff, Nat.reduceDiv, Nat.reduceMod, Nat.reduceSub, ↓reduceIte, if_true, if_false] <;> rfl)); (focus (exact Nat.le_of_ble_eq_true rfl)))
  | ((with_reducible apply r_condT); (focus (simp only [Tget_set, T.get_n, T.get_e, Nat.reduceEqDiff, Nat.reduceDiv, Nat.reduceMod, Nat.reduceSub, ↓reduceIte, if_true, if_false] <;> rfl)))
  | ((with_reducible (first | apply r_any | apply r_cond)); focus (simp only [↓reduceIte, clsOf, clsCall, newBlk, allocOp, Fr.ev, ofV, ofA, ofS, nVar, AV.cells, rowOf_mk, put_mk, upd_mk, keyOf_mk, ky_inj, pureOp, readOp, pFA, pFA1, pFA2, rLd, rdAB_row, oneCell_one, hget_same, hget_hset_ite, List.length_cons, List.length_nil, List.getElem?_cons_zero, List.getElem?_cons_succ, List.drop_zero, List.drop_succ_cons, List.take_succ_cons, List.take_zero, Nat.zero_add, Nat.add_zero, Nat.reduceAdd, Nat.reduceLT, Nat.reduceLeDiff, Nat.reduceEqDiff, Nat.reduceSub, Nat.add_eq, loadA_w, loadW_s, stepOp, stV_mk, stB_mk, T.get_n, T.set_n, T.set_e, Nat.reduceDiv, Nat.reduceMod, sz23, ag23, Tryz.underlying25, stepAny, wantedA_none, rCall, rLen, lA] <;> rfl))
  | (with_reducible rw [ifQ_t])
  | (with_reducible rw [ifQ_f])
  | (with_reducible refine ifQ_intro ?_ ?_ <;> intro hb))
  have hall : ∀ s ∈ headR q k c p ++ L.map printC, s.length ≤ maxLen := fun s hs => by
    rcases List.mem_append.1 hs with hs | hs
    · have h1 := itoa_len hq; have h2 := itoa_len hc; have h3 := itoa_len hp; have h4 := word_len k
      simp only [headR, List.mem_cons, List.not_mem_nil, or_false] at hs
      rcases hs with rfl | rfl | rfl | rfl <;> omega
    · obtain ⟨x, hx, rfl⟩ := List.mem_map.1 hs
      obtain ⟨k2, n, t, rfl, _, q2, _⟩ := cks_V64 (hL.1 x hx)
      have := printV_len (k := k2) (t := t) q2.1 q2.2 (itoa_len q2)
      show (printV k2 n t).length ≤ maxLen
      omega
  refine r_loop (I := fun nn fr s1 => ∃ lc tt h1 i l co, fr = ⟨F, lc, 40, tt, [], .no⟩ ∧ s1 = ⟨h1, F + 1⟩ ∧ i ≤ L.length ∧ nn = L.length - i ∧ lc + nn * 1000 ≤ 100000000000000000000000000 ∧ 0 < co ∧ co < lc ∧ SameH h0 h1 ∧ tt.get 1 = some (.ptr (ky F 0) 0) ∧ tt.get 3 = some l ∧ tt.get 22 = some a ∧ tt.get 23 = some (.int .i64 (L.length : Int)) ∧ tt.get 24 = some (.int .i64 (i : Int)) ∧ hget h1 (ky F 0) = some (mkRow [.int .i64 q, .int .i64 k, .int .i64 c, .int .i64 p, a] 0) ∧ OwnL h1 F co 1 l (tL (headR q k c p ++ (L.take i).map printC))) (n := L.length) ?_ ?_ ?_
  · omega
  · refine ⟨_, _, _, 0, _, 14, rfl, rfl, Nat.zero_le _, (Nat.sub_zero _).symm, by omega, by omega, by omega, ?_, (by first | (simp only [T.get_n, Nat.reduceEqDiff, Nat.reduceDiv, Nat.reduceMod, ↓reduceIte] <;> rfl) | rfl), (by first | (simp only [T.get_n, Nat.reduceEqDiff, Nat.reduceDiv, Nat.reduceMod, ↓reduceIte] <;> rfl) | rfl), (by first | (simp only [T.get_n, Nat.reduceEqDiff, Nat.reduceDiv, Nat.reduceMod, Nat.reduceSub, ↓reduceIte] <;> rfl) | rfl), (by first | (simp only [T.get_n, Nat.reduceEqDiff, Nat.reduceDiv, Nat.reduceMod, Nat.reduceSub, ↓reduceIte] <;> rfl) | rfl), (by first | (simp only [T.get_n, Nat.reduceEqDiff, Nat.reduceDiv, Nat.reduceMod, Nat.reduceSub, ↓reduceIte] <;> rfl) | rfl), ?_, ?_⟩
    rotate_right
    · rw [List.take_zero, List.map_nil, List.append_nil]
      exact OwnL.new (L := tL (headR q k c p)) (tL_one _) (by rw [hget_hset, if_pos rfl]; rfl) (.inr rfl)
    · repeat (first | exact SameH.refl _ | refine SameH.hset hw0 ?_ (ky_le _ _))
    · rw [hget_hset, if_neg (by rw [ky_inj]; omega), hget_hset, if_pos rfl]
  rintro nn fr s1 ⟨lc, tt, h1, i, l, co, rfl, rfl, hi, rfl, hlc, hco0, hco, hS, u1, u3, u22, u23, u24, c0, hO⟩
  by_cases hil : i < L.length
  · obtain ⟨b0, o0, eo0, cap0, k2, n, t, rfl, hb0, hx, _, q2, htl, r0⟩ := val_at hw0 hL hS hil
    have hO1 := hO.move (h' := hset (hset (hset h1 (ky F (lc + 1 + 2)) (mkRow [.int .i64 0, .int .i64 0, .str []] 0)) (ky F (lc + 1 + 2)) (mkRow [.int .i64 k2, .int .i64 n, .str t] 0)) (ky F (lc + 12 + 2)) (mkRow [.str (printV k2 n t)] 1)) (by rw [hget_hset, if_neg (by rw [ky_inj]; omega), hget_hset, if_neg (by rw [ky_inj]; omega), hget_hset, if_neg (by rw [ky_inj]; omega)])
    have hln : (tL (headR q k c p ++ (L.take i).map printC)).length ≤ 5 + i := by rw [tL_len]; simp [headR]; omega
    have ap := app_own (t := 36) (t2 := 36) (key := ky F (lc + 12 + 3)) (s := ⟨hset (hset (hset h1 (ky F (lc + 1 + 2)) (mkRow [.int .i64 0, .int .i64 0, .str []] 0)) (ky F (lc + 1 + 2)) (mkRow [.int .i64 k2, .int .i64 n, .str t] 0)) (ky F (lc + 12 + 2)) (mkRow [.str (printV k2 n t)] 1), F + 1⟩) (b := .slice (ky F (lc + 12 + 2)) 0 0 1 (some 1)) (N := tL [printV k2 n t]) Tryz.underlying36 Tryz.underlying36 sz9 by9 zo9 hO1 (src_one (by rw [hget_hset, if_pos rfl])) (by simp [tL]) (by decide) (tL_one _) rfl (by simp only [tL_len, List.length_cons, List.length_nil] at hln ⊢; omega) (by decide)
    repeat' (first
    | with_reducible refine r_seq ?_
    | with_reducible refine r_next ?_
    | with_reducible refine r_block ?_
    | with_reducible refine r_seq_exit ?_
    | with_reducible refine r_seq_ret ?_
    | with_reducible refine r_blk_n ?_
    | with_reducible refine r_blk_ret ?_
    | with_reducible refine r_blk_hit ?_
    | with_reducible refine r_blk_miss rfl ?_
    | with_reducible refine r_skip ?_
    | with_reducible refine r_exit ?_
    | with_reducible refine r_ret ?_
    | with_reducible refine r_rq_exit ?_
    | with_reducible refine r_rq_ret ?_
    | ((with_reducible apply r_regA); (focus (simp only [List.append_eq, List.cons_append, List.nil_append] <;> rfl)); (focus (first | exact Nat.le_of_ble_eq_true rfl | (simp only [List.length_cons, List.length_nil]; omega))))
    | ((with_reducible refine r_reg (List.toList_toArray) ?_ ?_); focus (first | exact Nat.le_of_ble_eq_true rfl | (simp only [List.length_cons, List.length_nil]; omega)))
    | ((with_reducible apply r_drawL); (focus kernel_rfl); (focus kernel_rfl); (focus (first | exact Nat.le_of_ble_eq_true rfl | (simp only [List.length_cons, List.length_nil]; omega))))
    | ((with_reducible apply r_end); focus (simp only [Nat.add_assoc, Nat.reduceAdd, Nat.zero_add] <;> rfl))
    | ((with_reducible (first | apply r_move | apply r_assign)); (focus (simp only [Tget_set, Nat.reduceEqDiff, ↓reduceIte, u3] <;> rfl)); (focus (exact Nat.le_of_ble_eq_true rfl)))
    | ((with_reducible apply r_condT); (focus (simp only [Tget_set, ↓reduceIte] <;> rfl)))
    | ((with_reducible (first | apply r_any | apply r_cond)); focus (simp only [↓reduceIte, clsOf, clsCall, newBlk, allocOp, Fr.ev, evs, evParts, ofV, ofA, ofS, nVar, AV.cells, rowOf_mk, put_mk, put_none, upd_mk, keyOf_mk, pureOp, readOp, rLd, rdAB_row, someAgg_s, hget_same, pBin, binA, intOp_lss, List.length_cons, List.length_nil, List.getElem?_cons_zero, List.getElem?_cons_succ, List.drop_zero, List.take_succ_cons, List.take_zero, Nat.zero_add, Nat.reduceAdd, Nat.reduceLT, Nat.reduceLeDiff, Nat.reduceEqDiff, and_self, loadA_w, loadW_a, aSt_w, stOut_s, wrAB_row, ovr, List.set_cons_zero, List.set_cons_succ, allCell, ic_i, ic_s, callTo_s, heavyCall, target, actOp, pEx, List.nil_append, List.append_nil, binA, stepOp, stHeavy, stV_mk, stB_mk, stO_mk, Tryz.underlying36, sz79, ag79, zr79, tg79, stepAny, wantedA_none, Tget_set, u22, u23, u24, lt_t hil, pIA_s Tryz.underlying23 sz79 hil, r0, k_pprint q2 htl, nBS_s1, aBuiltin, aApp, aApp2, outOf, ap, intOp_add (inR_succ hil hL.len)] <;> rfl))
    | (with_reducible rw [ifQ_t])
    | (with_reducible rw [ifQ_f])
    | (with_reducible refine ifQ_intro ?_ ?_ <;> intro hb))
    refine r_rq_n (k := L.length - (i + 1)) (by omega) ⟨_, _, _, i + 1, _, lc + 12 + 3, rfl, rfl, by omega, rfl, by omega, by omega, by omega, ?_, (by first | (simp only [Tget_set, Nat.reduceEqDiff, ↓reduceIte, u1] <;> rfl) | rfl), (by first | (simp only [Tget_set, Nat.reduceEqDiff, ↓reduceIte] <;> rfl) | rfl), (by first | (simp only [Tget_set, Nat.reduceEqDiff, ↓reduceIte, u22] <;> rfl) | rfl), (by first | (simp only [Tget_set, Nat.reduceEqDiff, ↓reduceIte, u23] <;> rfl) | rfl), (by first | (simp only [Tget_set, ↓reduceIte] <;> rfl) | rfl), ?_, ?_⟩
    · refine SameH.hset hw0 (same_killQ hw0 hO1 ?_) (ky_le _ _)
      repeat (first | exact hS | refine SameH.hset hw0 ?_ (ky_le _ _))
    · rw [hget_hset, if_neg (by rw [ky_inj]; omega), killQ_get hO1 (by rw [Ne, ky_inj]; omega), hget_hset, if_neg (by rw [ky_inj]; omega), hget_hset, if_neg (by rw [ky_inj]; omega), hget_hset, if_neg (by rw [ky_inj]; omega)]; exact c0
    · have e : tL (headR q k c p ++ (L.take (i + 1)).map printC) = tL (headR q k c p ++ (L.take i).map printC) ++ tL [printV k2 n t] := by
        rw [List.take_add_one, hx, ← tL_app]; simp [printC]
      rw [e]
      exact OwnL.new (fun x hx => by rw [← tL_app] at hx; exact tL_one _ x hx) (by rw [hget_hset, if_pos rfl]) (.inl rfl)
  · have hend : i = L.length := by omega
    rw [hend, List.take_length] at hO
    have hj := printR_len (k := k) hL hq hc hp L.length (Nat.le_refl _)
    rw [List.take_length] at hj
    have hJ : (Lib.join (headR q k c p ++ L.map printC) [32]).length ≤ 1000000000 := by have : (printR q k c p L).length ≤ 100 + 131 * L.length := hj; unfold printR at this; omega
    have hOl := own_lst hO (by simp [headR]; omega) hall
    repeat' (first
    | with_reducible refine r_seq ?_
    | with_reducible refine r_next ?_
    | with_reducible refine r_block ?_
    | with_reducible refine r_seq_exit ?_
    | with_reducible refine r_seq_ret ?_
    | with_reducible refine r_blk_n ?_
    | with_reducible refine r_blk_ret ?_
    | with_reducible refine r_blk_hit ?_
    | with_reducible refine r_blk_miss rfl ?_
    | with_reducible refine r_skip ?_
    | with_reducible refine r_exit ?_
    | with_reducible refine r_ret ?_
    | with_reducible refine r_rq_exit ?_
    | with_reducible refine r_rq_ret ?_
    | ((with_reducible apply r_regA); (focus (simp only [List.append_eq, List.cons_append, List.nil_append] <;> rfl)); (focus (first | exact Nat.le_of_ble_eq_true rfl | (simp only [List.length_cons, List.length_nil]; omega))))
    | ((with_reducible refine r_reg (List.toList_toArray) ?_ ?_); focus (first | exact Nat.le_of_ble_eq_true rfl | (simp only [List.length_cons, List.length_nil]; omega)))
    | ((with_reducible apply r_drawL); (focus kernel_rfl); (focus kernel_rfl); (focus (first | exact Nat.le_of_ble_eq_true rfl | (simp only [List.length_cons, List.length_nil]; omega))))
    | ((with_reducible apply r_end); focus (simp only [Nat.add_assoc, Nat.reduceAdd, Nat.zero_add] <;> rfl))
    | ((with_reducible (first | apply r_move | apply r_assign)); (focus (simp only [Tget_set, Nat.reduceEqDiff, ↓reduceIte, u3] <;> rfl)); (focus (exact Nat.le_of_ble_eq_true rfl)))
    | ((with_reducible apply r_condT); (focus (simp only [Tget_set, ↓reduceIte] <;> rfl)))
    | ((with_reducible (first | apply r_any | apply r_cond)); focus (simp only [↓reduceIte, clsOf, clsCall, Fr.ev, evs, ofV, ofA, ofS, put_mk, pureOp, pBin, binA, intOp_lss, Nat.reduceLT, callTo_s, heavyCall, target, List.nil_append, List.append_nil, binA, stepOp, stHeavy, stV_mk, stO_mk, stepAny, wantedA_none, Tget_set, u23, u24, lt_f hil, k_join (sep := [32]) hOl (by simp [headR]) (by simp [headR]; omega) hJ, sameT] <;> rfl))
    | (with_reducible rw [ifQ_t])
    | (with_reducible rw [ifQ_f])
    | (with_reducible refine ifQ_intro ?_ ?_ <;> intro hb))
    subst hQ
    refine ret_back (by simp only [Tryz.results12, resultOf, resultsA, resultA, List.toList_toArray, Fr.ev, Tget_set, ↓reduceIte] <;> rfl) ?_
    exact ⟨_, rfl, SameH.trans hS0 hS⟩
theorem k_rprint {h h1 : Heap} {F : Nat} {q k c p : Int} {a : AV} {L : List (List AV)} (hL : LstP h ksV a L) (hq : in64 q) (hc : in64 c) (hp : in64 p) (hlen : L.length ≤ 90000) (hs : SameH h h1) : CallF.fn (KT S) 12 [.agg [.int .i64 q, .int .i64 k, .int .i64 c, .int .i64 p, a]] ⟨h1, F⟩ = some [.val (.str (printR q k c p L)) ⟨h1, F⟩] :=
  kt_fn ((rfl : _ = spRp [.agg [.int .i64 q, .int .i64 k, .int .i64 c, .int .i64 p, a]] ⟨h1, F⟩).trans (by simp only [spRp, lstOf_same hL hs])) (rprint h1 F q k c p a L (hL.same hs) hq hc hp hlen)
set_option maxHeartbeats 4000000 in
theorem vrprint (h : Heap) (F : Nat) (q k c p : Int) (a : AV) (L : List (List AV)) (hL : LstP h ksV a L) (hq : in64 q) (hc : in64 c) (hp : in64 p) (hlen : L.length ≤ 90000) : Snd Tryz.prog GL 13 [.agg [.int .i64 q, .int .i64 k, .int .i64 c, .int .i64 p, a]] ⟨h, F⟩ [.val (.str (printR q k c p L)) ⟨h, F⟩] := by
  refine snd_val (by simp [Kin]) fun hw => ?_
  have mxl : maxLen = 9223372036854775807 := by decide
  have lA := fun (h2 : Heap) => rLen1_L (h2 := h2) Tryz.underlying23 hL
  have g1 := itoa_len hq; have g2 := itoa_len hc; have g3 := itoa_len hp; have g4 := word_len k
  have s1 := strOp_add (a := Lib.itoa q) (b := [32]) (by simp only [List.length_cons, List.length_nil]; omega)
  have s2 := strOp_add (a := Lib.itoa q ++ [32]) (b := wordL k) (by simp only [List.length_append, List.length_cons, List.length_nil]; omega)
  have s3 := strOp_add (a := Lib.itoa q ++ [32] ++ wordL k) (b := [32]) (by simp only [List.length_append, List.length_cons, List.length_nil]; omega)
  have s4 := strOp_add (a := Lib.itoa q ++ [32] ++ wordL k ++ [32]) (b := Lib.itoa c) (by simp only [List.length_append, List.length_cons, List.length_nil]; omega)
  have s5 := strOp_add (a := Lib.itoa q ++ [32] ++ wordL k ++ [32] ++ Lib.itoa c) (b := [32]) (by simp only [List.length_append, List.length_cons, List.length_nil]; omega)
  have s6 := strOp_add (a := Lib.itoa q ++ [32] ++ wordL k ++ [32] ++ Lib.itoa c ++ [32]) (b := Lib.itoa p) (by simp only [List.length_append, List.length_cons, List.length_nil]; omega)
  refine sndQ_body (K := (KT S0)) kt_ok mixed noNum (m := L.length + 1) Tryz.func13 ?_
  generalize hQ : retQ _ _ _ _ _ _ = Q0
  refine body_go (c := Tryz.f13.body.getD .skip) (n := 46) rfl rfl (by simp only [↓reduceIte, T.setList, T.set_e] <;> rfl) ?_
  simp only [Tryz.f13, Option.getD_some]
  repeat' (first
  | with_reducible refine r_seq ?_
  | with_reducible refine r_next ?_
  | with_reducible refine r_block ?_
  | with_reducible refine r_seq_exit ?_
  | with_reducible refine r_seq_ret ?_
  | with_reducible refine r_blk_n ?_
  | with_reducible refine r_blk_ret ?_
  | with_reducible refine r_blk_hit ?_
  | with_reducible refine r_blk_miss rfl ?_
  | with_reducible refine r_skip ?_
  | with_reducible refine r_exit ?_
  | with_reducible refine r_ret ?_
  | with_reducible refine r_rq_exit ?_
  | with_reducible refine r_rq_ret ?_
  | ((with_reducible apply r_regA); (focus (simp only [List.append_eq, List.cons_append, List.nil_append] <;> rfl)); (focus (first | exact Nat.le_of_ble_eq_true rfl | (simp only [List.length_cons, List.length_nil]; omega))))
  | ((with_reducible refine r_reg (List.toList_toArray) ?_ ?_); focus (first | exact Nat.le_of_ble_eq_true rfl | (simp only [List.length_cons, List.length_nil]; omega)))
  | ((with_reducible apply (r_drawG (js := [(0, 0), (1, 1), (4, 0), (5, 16), (9, 0), (10, 512), (14, 0), (15, 16384), (2, 3), (3, 7), (6, 55), (7, 127), (8, 255), (11, 1655), (12, 4095), (13, 8191), (16, 52855), (17, 131071), (18, 262143)]))); (focus kernel_rfl); (focus kernel_rfl); (focus (first | exact Nat.le_of_ble_eq_true rfl | (simp only [List.length_cons, List.length_nil]; omega))))
  | ((with_reducible apply g_end); (focus (simp only [List.length_cons, List.length_nil, Nat.reduceAdd, Nat.zero_add] <;> rfl)); simp only [withH_mk, addAll_nil, ↓reduceIte, withH_mk, Nat.reduceEqDiff, Nat.reduceSub, T.set_n, T.set_e, Nat.reduceDiv, Nat.reduceMod, addAll_nil])
  | ((with_reducible apply g_undef); (focus rfl); (focus (simp only [↓reduceIte, Nat.reduceEqDiff, Nat.reduceSub, T.set_n, T.set_e, Nat.reduceDiv, Nat.reduceMod, wantedA_none] <;> rfl)); (focus (simp only [put_mk, put_none, Nat.reduceLT, ↓reduceIte, if_true, if_false] <;> rfl)))
  | ((with_reducible apply g_pure); (focus rfl); (focus rfl); (focus (first | rfl | (simp only [↓reduceIte, wantedA_eq, gBool_t, gBool_f, Bool.not_true, Bool.not_false, Bool.not_not, clsOf, clsCall, newBlk, allocOp, ev_tmp, Fr.ev, evs, evParts, ofV, ofA, ofS, ofSs, ofAs, nVar, AV.cells, rowOf_mk, rowT_mk, mkRowT_0, put_mk, put_none, upd_mk, withH_mk, keyOf_mk, ky_inj, pureOp, readOp, T.get_e, pFA, pFA1, pFA2, rLd, rdAB_row, oneCell_one, someAgg_s, hget_same, hget_hset_ite, pBin, binA, intOp_eql, intOp_neq, intOp_lss, intOp_leq, intOp_gtr, intOp_geq, pPick, List.length_cons, List.length_nil, List.getElem?_cons_zero, List.getElem?_cons_succ, List.drop_zero, List.drop_succ_cons, List.take_succ_cons, List.take_zero, Nat.zero_add, Nat.add_zero, Nat.reduceAdd, Nat.reduceLT, Nat.reduceLeDiff, Nat.reduceEqDiff, Nat.reduceMul, Nat.reduceSub, Nat.succ_eq_add_one, if_true, if_false, true_and, and_true, and_self, List.toList_toArray, Nat.add_eq, Nat.mul_eq, Nat.sub_eq, loadA_w, loadW_a, loadW_s, aSt_w, stOut_s, wrAB_row, ovr, List.set_cons_zero, List.set_cons_succ, allCell, ic_b, ic_i, ic_s, ic_np, ic_p, ic_g, ic_ns, ic_h, ic_sl, ic_nm, ic_m, ic_nf, ic_f, ic_ni, ic_if, pUn_not, callTo_s, heavyCall, target, actOp, pEx, List.nil_append, List.append_nil, pNil, pBuild, pBuild2, fieldsOk, buildParts, List.getElem?_nil, pMkF, binA, eqIn, eqGuardOk, pF, pF1, partA, beq_self_eq_true, bne_self_eq_false, decide_true, decide_false, Int.reduceBEq, Int.reduceBNe, Int.reduceLT, Int.reduceLE, Int.reduceEq, Int.reduceNeg, Int.reduceAdd, Int.reduceSub, Bool.and_true, Bool.true_and, Bool.and_false, Bool.false_and, stepOp, stHeavy, stV_mk, stB_mk, stO_mk, T.get_n, T.set_n, T.set_e, Nat.reduceDiv, Nat.reduceMod, ofNat_z, sz2, ag2, zr2, tg2, Tryz.underlying2, sz3, ag3, zr3, tg3, Tryz.underlying3, sz9, ag9, zr9, tg9, Tryz.underlying9, sz23, ag23, zr23, tg23, Tryz.underlying23, sz25, ag25, zr25, tg25, Tryz.underlying25, sz79, ag79, zr79, tg79, Tryz.underlying79, stepAny, wantedA_none, rCall, rLen, rLen1_str, rLen1_sl, lenA, Tget_set, natOf_c, Nat.left_eq_add, Nat.add_eq_left, Nat.testBit_eq_decide_div_mod_eq, Nat.reducePow, addMade_nil, addMade_cons, mad1_t, mad1_o, mad1_f, addAll_nil, addAll_cons, readsLeft_nil, readsLeft_cons, rdl1_t, rdl1_f, readsOk_nil, readsOk_cons, rok1_s, asideOk_nil, asideOk_cons, asd1_n, asd1_s, av_str, av_int, av_bool, av_ptr, av_sl, av_nils, av_nili, av_agg, av_if, avs_nil, avs_cons, Bool.and_self, k_vdigits hq, k_vdigits hc, k_vdigits hp, k_rword, s1, s2, s3, s4, s5, s6] <;> rfl))); (focus (simp only [↓reduceIte, Fr.ev, ofV, ofA, ofS, pureOp, pFA, pFA1, pFA2, pBin, binA, List.getElem?_cons_zero, List.getElem?_cons_succ, Nat.zero_add, Nat.add_zero, Nat.reduceEqDiff, Nat.reduceSub, Nat.add_eq, binA, T.get_n, T.set_n, T.set_e, Nat.reduceDiv, Nat.reduceMod, sz2, sz3, Tryz.underlying25, s1, s2, s3, s4, s5, s6] <;> rfl)); (focus (simp only [put_mk, Nat.reduceLT, ↓reduceIte] <;> rfl)))
  | ((with_reducible apply g_read); (focus rfl); (focus rfl); (focus (first | rfl | (simp only [↓reduceIte, wantedA_eq, gBool_t, gBool_f, Bool.not_true, Bool.not_false, Bool.not_not, clsOf, clsCall, newBlk, allocOp, ev_tmp, Fr.ev, evs, evParts, ofV, ofA, ofS, ofSs, ofAs, nVar, AV.cells, rowOf_mk, rowT_mk, mkRowT_0, put_mk, put_none, upd_mk, withH_mk, keyOf_mk, ky_inj, pureOp, readOp, T.get_e, pFA, pFA1, pFA2, rLd, rdAB_row, oneCell_one, someAgg_s, hget_same, hget_hset_ite, pBin, binA, intOp_eql, intOp_neq, intOp_lss, intOp_leq, intOp_gtr, intOp_geq, pPick, List.length_cons, List.length_nil, List.getElem?_cons_zero, List.getElem?_cons_succ, List.drop_zero, List.drop_succ_cons, List.take_succ_cons, List.take_zero, Nat.zero_add, Nat.add_zero, Nat.reduceAdd, Nat.reduceLT, Nat.reduceLeDiff, Nat.reduceEqDiff, Nat.reduceMul, Nat.reduceSub, Nat.succ_eq_add_one, if_true, if_false, true_and, and_true, and_self, List.toList_toArray, Nat.add_eq, Nat.mul_eq, Nat.sub_eq, loadA_w, loadW_a, loadW_s, aSt_w, stOut_s, wrAB_row, ovr, List.set_cons_zero, List.set_cons_succ, allCell, ic_b, ic_i, ic_s, ic_np, ic_p, ic_g, ic_ns, ic_h, ic_sl, ic_nm, ic_m, ic_nf, ic_f, ic_ni, ic_if, pUn_not, callTo_s, heavyCall, target, actOp, pEx, List.nil_append, List.append_nil, pNil, pBuild, pBuild2, fieldsOk, buildParts, List.getElem?_nil, pMkF, binA, eqIn, eqGuardOk, pF, pF1, partA, beq_self_eq_true, bne_self_eq_false, decide_true, decide_false, Int.reduceBEq, Int.reduceBNe, Int.reduceLT, Int.reduceLE, Int.reduceEq, Int.reduceNeg, Int.reduceAdd, Int.reduceSub, Bool.and_true, Bool.true_and, Bool.and_false, Bool.false_and, stepOp, stHeavy, stV_mk, stB_mk, stO_mk, T.get_n, T.set_n, T.set_e, Nat.reduceDiv, Nat.reduceMod, ofNat_z, sz2, ag2, zr2, tg2, Tryz.underlying2, sz3, ag3, zr3, tg3, Tryz.underlying3, sz9, ag9, zr9, tg9, Tryz.underlying9, sz23, ag23, zr23, tg23, Tryz.underlying23, sz25, ag25, zr25, tg25, Tryz.underlying25, sz79, ag79, zr79, tg79, Tryz.underlying79, stepAny, wantedA_none, rCall, rLen, rLen1_str, rLen1_sl, lenA, Tget_set, natOf_c, Nat.left_eq_add, Nat.add_eq_left, Nat.testBit_eq_decide_div_mod_eq, Nat.reducePow, addMade_nil, addMade_cons, mad1_t, mad1_o, mad1_f, addAll_nil, addAll_cons, readsLeft_nil, readsLeft_cons, rdl1_t, rdl1_f, readsOk_nil, readsOk_cons, rok1_s, asideOk_nil, asideOk_cons, asd1_n, asd1_s, av_str, av_int, av_bool, av_ptr, av_sl, av_nils, av_nili, av_agg, av_if, avs_nil, avs_cons, Bool.and_self, k_vdigits hq, k_vdigits hc, k_vdigits hp, k_rword, s1, s2, s3, s4, s5, s6] <;> rfl))); (focus (simp only [↓reduceIte, Fr.ev, readOp, rLd, rdAB_row, oneCell_one, hget_same, List.length_cons, List.length_nil, List.drop_zero, List.drop_succ_cons, List.take_succ_cons, List.take_zero, Nat.zero_add, Nat.reduceAdd, Nat.reduceLeDiff, Nat.reduceEqDiff, Nat.reduceSub, loadA_w, loadW_s, T.get_n, T.set_n, T.set_e, Nat.reduceDiv, Nat.reduceMod, sz2, ag2, sz3, ag3, addMade_nil] <;> rfl)); (focus (simp only [put_mk, Nat.reduceLT, ↓reduceIte] <;> rfl)))
  | ((with_reducible apply g_alloc); (focus rfl); (focus rfl); (focus (first | rfl | (simp only [↓reduceIte, wantedA_eq, gBool_t, gBool_f, Bool.not_true, Bool.not_false, Bool.not_not, clsOf, clsCall, newBlk, allocOp, ev_tmp, Fr.ev, evs, evParts, ofV, ofA, ofS, ofSs, ofAs, nVar, AV.cells, rowOf_mk, rowT_mk, mkRowT_0, put_mk, put_none, upd_mk, withH_mk, keyOf_mk, ky_inj, pureOp, readOp, T.get_e, pFA, pFA1, pFA2, rLd, rdAB_row, oneCell_one, someAgg_s, hget_same, hget_hset_ite, pBin, binA, intOp_eql, intOp_neq, intOp_lss, intOp_leq, intOp_gtr, intOp_geq, pPick, List.length_cons, List.length_nil, List.getElem?_cons_zero, List.getElem?_cons_succ, List.drop_zero, List.drop_succ_cons, List.take_succ_cons, List.take_zero, Nat.zero_add, Nat.add_zero, Nat.reduceAdd, Nat.reduceLT, Nat.reduceLeDiff, Nat.reduceEqDiff, Nat.reduceMul, Nat.reduceSub, Nat.succ_eq_add_one, if_true, if_false, true_and, and_true, and_self, List.toList_toArray, Nat.add_eq, Nat.mul_eq, Nat.sub_eq, loadA_w, loadW_a, loadW_s, aSt_w, stOut_s, wrAB_row, ovr, List.set_cons_zero, List.set_cons_succ, allCell, ic_b, ic_i, ic_s, ic_np, ic_p, ic_g, ic_ns, ic_h, ic_sl, ic_nm, ic_m, ic_nf, ic_f, ic_ni, ic_if, pUn_not, callTo_s, heavyCall, target, actOp, pEx, List.nil_append, List.append_nil, pNil, pBuild, pBuild2, fieldsOk, buildParts, List.getElem?_nil, pMkF, binA, eqIn, eqGuardOk, pF, pF1, partA, beq_self_eq_true, bne_self_eq_false, decide_true, decide_false, Int.reduceBEq, Int.reduceBNe, Int.reduceLT, Int.reduceLE, Int.reduceEq, Int.reduceNeg, Int.reduceAdd, Int.reduceSub, Bool.and_true, Bool.true_and, Bool.and_false, Bool.false_and, stepOp, stHeavy, stV_mk, stB_mk, stO_mk, T.get_n, T.set_n, T.set_e, Nat.reduceDiv, Nat.reduceMod, ofNat_z, sz2, ag2, zr2, tg2, Tryz.underlying2, sz3, ag3, zr3, tg3, Tryz.underlying3, sz9, ag9, zr9, tg9, Tryz.underlying9, sz23, ag23, zr23, tg23, Tryz.underlying23, sz25, ag25, zr25, tg25, Tryz.underlying25, sz79, ag79, zr79, tg79, Tryz.underlying79, stepAny, wantedA_none, rCall, rLen, rLen1_str, rLen1_sl, lenA, Tget_set, natOf_c, Nat.left_eq_add, Nat.add_eq_left, Nat.testBit_eq_decide_div_mod_eq, Nat.reducePow, addMade_nil, addMade_cons, mad1_t, mad1_o, mad1_f, addAll_nil, addAll_cons, readsLeft_nil, readsLeft_cons, rdl1_t, rdl1_f, readsOk_nil, readsOk_cons, rok1_s, asideOk_nil, asideOk_cons, asd1_n, asd1_s, av_str, av_int, av_bool, av_ptr, av_sl, av_nils, av_nili, av_agg, av_if, avs_nil, avs_cons, Bool.and_self, k_vdigits hq, k_vdigits hc, k_vdigits hp, k_rword, s1, s2, s3, s4, s5, s6] <;> rfl))); (focus (simp only [keyOf_mk, Nat.add_zero, Nat.zero_add] <;> rfl)); (focus (simp only [↓reduceIte, wantedA_eq, gBool_t, gBool_f, Bool.not_true, Bool.not_false, Bool.not_not, clsOf, clsCall, newBlk, allocOp, ev_tmp, Fr.ev, evs, evParts, ofV, ofA, ofS, ofSs, ofAs, nVar, AV.cells, rowOf_mk, rowT_mk, mkRowT_0, put_mk, put_none, upd_mk, withH_mk, keyOf_mk, ky_inj, pureOp, readOp, T.get_e, pFA, pFA1, pFA2, rLd, rdAB_row, oneCell_one, someAgg_s, hget_same, hget_hset_ite, pBin, binA, intOp_eql, intOp_neq, intOp_lss, intOp_leq, intOp_gtr, intOp_geq, pPick, List.length_cons, List.length_nil, List.getElem?_cons_zero, List.getElem?_cons_succ, List.drop_zero, List.drop_succ_cons, List.take_succ_cons, List.take_zero, Nat.zero_add, Nat.add_zero, Nat.reduceAdd, Nat.reduceLT, Nat.reduceLeDiff, Nat.reduceEqDiff, Nat.reduceMul, Nat.reduceSub, Nat.succ_eq_add_one, if_true, if_false, true_and, and_true, and_self, List.toList_toArray, Nat.add_eq, Nat.mul_eq, Nat.sub_eq, loadA_w, loadW_a, loadW_s, aSt_w, stOut_s, wrAB_row, ovr, List.set_cons_zero, List.set_cons_succ, allCell, ic_b, ic_i, ic_s, ic_np, ic_p, ic_g, ic_ns, ic_h, ic_sl, ic_nm, ic_m, ic_nf, ic_f, ic_ni, ic_if, pUn_not, callTo_s, heavyCall, target, actOp, pEx, List.nil_append, List.append_nil, pNil, pBuild, pBuild2, fieldsOk, buildParts, List.getElem?_nil, pMkF, binA, eqIn, eqGuardOk, pF, pF1, partA, beq_self_eq_true, bne_self_eq_false, decide_true, decide_false, Int.reduceBEq, Int.reduceBNe, Int.reduceLT, Int.reduceLE, Int.reduceEq, Int.reduceNeg, Int.reduceAdd, Int.reduceSub, Bool.and_true, Bool.true_and, Bool.and_false, Bool.false_and, stepOp, stHeavy, stV_mk, stB_mk, stO_mk, T.get_n, T.set_n, T.set_e, Nat.reduceDiv, Nat.reduceMod, ofNat_z, sz2, ag2, zr2, tg2, Tryz.underlying2, sz3, ag3, zr3, tg3, Tryz.underlying3, sz9, ag9, zr9, tg9, Tryz.underlying9, sz23, ag23, zr23, tg23, Tryz.underlying23, sz25, ag25, zr25, tg25, Tryz.underlying25, sz79, ag79, zr79, tg79, Tryz.underlying79, stepAny, wantedA_none, rCall, rLen, rLen1_str, rLen1_sl, lenA, Tget_set, natOf_c, Nat.left_eq_add, Nat.add_eq_left, Nat.testBit_eq_decide_div_mod_eq, Nat.reducePow, addMade_nil, addMade_cons, mad1_t, mad1_o, mad1_f, addAll_nil, addAll_cons, readsLeft_nil, readsLeft_cons, rdl1_t, rdl1_f, readsOk_nil, readsOk_cons, rok1_s, asideOk_nil, asideOk_cons, asd1_n, asd1_s, av_str, av_int, av_bool, av_ptr, av_sl, av_nils, av_nili, av_agg, av_if, avs_nil, avs_cons, Bool.and_self, k_vdigits hq, k_vdigits hc, k_vdigits hp, k_rword, s1, s2, s3, s4, s5, s6] <;> rfl)); (focus (simp only [↓reduceIte, wantedA_eq, gBool_t, gBool_f, Bool.not_true, Bool.not_false, Bool.not_not, clsOf, clsCall, newBlk, allocOp, ev_tmp, Fr.ev, evs, evParts, ofV, ofA, ofS, ofSs, ofAs, nVar, AV.cells, rowOf_mk, rowT_mk, mkRowT_0, put_mk, put_none, upd_mk, withH_mk, keyOf_mk, ky_inj, pureOp, readOp, T.get_e, pFA, pFA1, pFA2, rLd, rdAB_row, oneCell_one, someAgg_s, hget_same, hget_hset_ite, pBin, binA, intOp_eql, intOp_neq, intOp_lss, intOp_leq, intOp_gtr, intOp_geq, pPick, List.length_cons, List.length_nil, List.getElem?_cons_zero, List.getElem?_cons_succ, List.drop_zero, List.drop_succ_cons, List.take_succ_cons, List.take_zero, Nat.zero_add, Nat.add_zero, Nat.reduceAdd, Nat.reduceLT, Nat.reduceLeDiff, Nat.reduceEqDiff, Nat.reduceMul, Nat.reduceSub, Nat.succ_eq_add_one, if_true, if_false, true_and, and_true, and_self, List.toList_toArray, Nat.add_eq, Nat.mul_eq, Nat.sub_eq, loadA_w, loadW_a, loadW_s, aSt_w, stOut_s, wrAB_row, ovr, List.set_cons_zero, List.set_cons_succ, allCell, ic_b, ic_i, ic_s, ic_np, ic_p, ic_g, ic_ns, ic_h, ic_sl, ic_nm, ic_m, ic_nf, ic_f, ic_ni, ic_if, pUn_not, callTo_s, heavyCall, target, actOp, pEx, List.nil_append, List.append_nil, pNil, pBuild, pBuild2, fieldsOk, buildParts, List.getElem?_nil, pMkF, binA, eqIn, eqGuardOk, pF, pF1, partA, beq_self_eq_true, bne_self_eq_false, decide_true, decide_false, Int.reduceBEq, Int.reduceBNe, Int.reduceLT, Int.reduceLE, Int.reduceEq, Int.reduceNeg, Int.reduceAdd, Int.reduceSub, Bool.and_true, Bool.true_and, Bool.and_false, Bool.false_and, stepOp, stHeavy, stV_mk, stB_mk, stO_mk, T.get_n, T.set_n, T.set_e, Nat.reduceDiv, Nat.reduceMod, ofNat_z, sz2, ag2, zr2, tg2, Tryz.underlying2, sz3, ag3, zr3, tg3, Tryz.underlying3, sz9, ag9, zr9, tg9, Tryz.underlying9, sz23, ag23, zr23, tg23, Tryz.underlying23, sz25, ag25, zr25, tg25, Tryz.underlying25, sz79, ag79, zr79, tg79, Tryz.underlying79, stepAny, wantedA_none, rCall, rLen, rLen1_str, rLen1_sl, lenA, Tget_set, natOf_c, Nat.left_eq_add, Nat.add_eq_left, Nat.testBit_eq_decide_div_mod_eq, Nat.reducePow, addMade_nil, addMade_cons, mad1_t, mad1_o, mad1_f, addAll_nil, addAll_cons, readsLeft_nil, readsLeft_cons, rdl1_t, rdl1_f, readsOk_nil, readsOk_cons, rok1_s, asideOk_nil, asideOk_cons, asd1_n, asd1_s, av_str, av_int, av_bool, av_ptr, av_sl, av_nils, av_nili, av_agg, av_if, avs_nil, avs_cons, Bool.and_self, k_vdigits hq, k_vdigits hc, k_vdigits hp, k_rword, s1, s2, s3, s4, s5, s6])); (focus (simp only [put_mk, put_none, Nat.reduceLT, ↓reduceIte, if_true, if_false] <;> rfl)))
  | ((with_reducible apply g_act); (focus rfl); (focus rfl); (focus rfl); (focus (first | rfl | (simp only [↓reduceIte, wantedA_eq, gBool_t, gBool_f, Bool.not_true, Bool.not_false, Bool.not_not, clsOf, clsCall, newBlk, allocOp, ev_tmp, Fr.ev, evs, evParts, ofV, ofA, ofS, ofSs, ofAs, nVar, AV.cells, rowOf_mk, rowT_mk, mkRowT_0, put_mk, put_none, upd_mk, withH_mk, keyOf_mk, ky_inj, pureOp, readOp, T.get_e, pFA, pFA1, pFA2, rLd, rdAB_row, oneCell_one, someAgg_s, hget_same, hget_hset_ite, pBin, binA, intOp_eql, intOp_neq, intOp_lss, intOp_leq, intOp_gtr, intOp_geq, pPick, List.length_cons, List.length_nil, List.getElem?_cons_zero, List.getElem?_cons_succ, List.drop_zero, List.drop_succ_cons, List.take_succ_cons, List.take_zero, Nat.zero_add, Nat.add_zero, Nat.reduceAdd, Nat.reduceLT, Nat.reduceLeDiff, Nat.reduceEqDiff, Nat.reduceMul, Nat.reduceSub, Nat.succ_eq_add_one, if_true, if_false, true_and, and_true, and_self, List.toList_toArray, Nat.add_eq, Nat.mul_eq, Nat.sub_eq, loadA_w, loadW_a, loadW_s, aSt_w, stOut_s, wrAB_row, ovr, List.set_cons_zero, List.set_cons_succ, allCell, ic_b, ic_i, ic_s, ic_np, ic_p, ic_g, ic_ns, ic_h, ic_sl, ic_nm, ic_m, ic_nf, ic_f, ic_ni, ic_if, pUn_not, callTo_s, heavyCall, target, actOp, pEx, List.nil_append, List.append_nil, pNil, pBuild, pBuild2, fieldsOk, buildParts, List.getElem?_nil, pMkF, binA, eqIn, eqGuardOk, pF, pF1, partA, beq_self_eq_true, bne_self_eq_false, decide_true, decide_false, Int.reduceBEq, Int.reduceBNe, Int.reduceLT, Int.reduceLE, Int.reduceEq, Int.reduceNeg, Int.reduceAdd, Int.reduceSub, Bool.and_true, Bool.true_and, Bool.and_false, Bool.false_and, stepOp, stHeavy, stV_mk, stB_mk, stO_mk, T.get_n, T.set_n, T.set_e, Nat.reduceDiv, Nat.reduceMod, ofNat_z, sz2, ag2, zr2, tg2, Tryz.underlying2, sz3, ag3, zr3, tg3, Tryz.underlying3, sz9, ag9, zr9, tg9, Tryz.underlying9, sz23, ag23, zr23, tg23, Tryz.underlying23, sz25, ag25, zr25, tg25, Tryz.underlying25, sz79, ag79, zr79, tg79, Tryz.underlying79, stepAny, wantedA_none, rCall, rLen, rLen1_str, rLen1_sl, lenA, Tget_set, natOf_c, Nat.left_eq_add, Nat.add_eq_left, Nat.testBit_eq_decide_div_mod_eq, Nat.reducePow, addMade_nil, addMade_cons, mad1_t, mad1_o, mad1_f, addAll_nil, addAll_cons, readsLeft_nil, readsLeft_cons, rdl1_t, rdl1_f, readsOk_nil, readsOk_cons, rok1_s, asideOk_nil, asideOk_cons, asd1_n, asd1_s, av_str, av_int, av_bool, av_ptr, av_sl, av_nils, av_nili, av_agg, av_if, avs_nil, avs_cons, Bool.and_self, k_vdigits hq, k_vdigits hc, k_vdigits hp, k_rword, s1, s2, s3, s4, s5, s6] <;> rfl))); (focus (simp only [heavy, ↓reduceIte, Fr.ev, evs, withH_mk, Nat.reduceEqDiff, Nat.reduceSub, callTo_s, heavyCall, target, List.nil_append, List.append_nil, T.get_n, T.set_n, T.set_e, Nat.reduceDiv, Nat.reduceMod, addMade_nil, k_vdigits hq, k_vdigits hc, k_vdigits hp, k_rword] <;> rfl)); (focus (simp only [put_mk, Nat.reduceLT, ↓reduceIte] <;> rfl)); (focus (simp only [↓reduceIte, Fr.ev, readOp, rLd, rdAB_row, oneCell_one, hget_same, List.length_cons, List.length_nil, List.drop_zero, List.drop_succ_cons, List.take_succ_cons, List.take_zero, Nat.zero_add, Nat.reduceAdd, Nat.reduceLeDiff, Nat.reduceEqDiff, Nat.reduceSub, loadA_w, loadW_s, decide_true, decide_false, T.get_n, T.set_n, T.set_e, Nat.reduceDiv, Nat.reduceMod, sz3, ag3, Nat.testBit_eq_decide_div_mod_eq, Nat.reducePow, addMade_nil, readsLeft_nil, readsLeft_cons, rdl1_t, rdl1_f, readsOk_nil, readsOk_cons, rok1_s, av_int, Bool.and_self] <;> rfl)); (focus (simp only [addMade_nil, asideOk_nil] <;> rfl)))
  | ((with_reducible apply r_drawL); (focus kernel_rfl); (focus kernel_rfl); (focus (first | exact Nat.le_of_ble_eq_true rfl | (simp only [List.length_cons, List.length_nil]; omega))))
  | ((with_reducible apply r_end); focus (simp only [Nat.reduceAdd, Nat.zero_add] <;> rfl))
  | ((with_reducible (first | apply r_move | apply r_assign)); (focus (simp only [Tget_set, T.get_n, T.get_e, Nat.reduceEqDiff, Nat.reduceDiv, Nat.reduceMod, Nat.reduceSub, ↓reduceIte, if_true, if_false] <;> rfl)); (focus (exact Nat.le_of_ble_eq_true rfl)))
  | ((with_reducible apply r_condT); (focus (simp only [Tget_set, T.get_n, T.get_e, Nat.reduceEqDiff, Nat.reduceDiv, Nat.reduceMod, Nat.reduceSub, ↓reduceIte, if_true, if_false] <;> rfl)))
  | ((with_reducible (first | apply r_any | apply r_cond)); focus (simp only [↓reduceIte, clsOf, newBlk, allocOp, Fr.ev, ofV, ofA, ofS, nVar, AV.cells, rowOf_mk, put_mk, upd_mk, keyOf_mk, pureOp, Nat.add_zero, Nat.reduceLT, Nat.reduceEqDiff, Nat.reduceSub, stepOp, stV_mk, stB_mk, T.get_n, T.set_n, T.set_e, Nat.reduceDiv, Nat.reduceMod, stepAny, wantedA_none] <;> rfl))
  | (with_reducible rw [ifQ_t])
  | (with_reducible rw [ifQ_f])
  | (with_reducible refine ifQ_intro ?_ ?_ <;> intro hb))
  refine r_loop (I := fun nn fr s1 => ∃ lc tt i, fr = ⟨F, lc, 46, tt, [], .no⟩ ∧ s1 = ⟨hset h (ky F 0) (mkRow [.int .i64 q, .int .i64 k, .int .i64 c, .int .i64 p, a] 0), F + 1⟩ ∧ i ≤ L.length ∧ nn = L.length - i ∧ lc + nn * 1000 ≤ 100000000000000000000000000 ∧ tt.get 1 = some (.ptr (ky F 0) 0) ∧ tt.get 3 = some (.str (printR q k c p (L.take i))) ∧ tt.get 4 = some (.int .i64 (i : Int))) (n := L.length) ?_ ?_ ?_
  · omega
  · exact ⟨_, _, 0, rfl, rfl, Nat.zero_le _, (Nat.sub_zero _).symm, by omega, (by first | (simp only [T.get_n, Nat.reduceEqDiff, Nat.reduceDiv, Nat.reduceMod, ↓reduceIte] <;> rfl) | rfl), (by first | (simp only [T.get_n, Nat.reduceEqDiff, Nat.reduceDiv, Nat.reduceMod, ↓reduceIte, List.take_zero, printR_nil] <;> rfl) | rfl), (by first | (simp only [T.get_n, Nat.reduceEqDiff, Nat.reduceDiv, Nat.reduceMod, Nat.reduceSub, ↓reduceIte] <;> rfl) | rfl)⟩
  rintro nn fr s1 ⟨lc, tt, i, rfl, rfl, hi, rfl, hlc, u1, u3, u4⟩
  have hpl := printR_len (k := k) hL hq hc hp i hi
  by_cases hil : i < L.length
  · obtain ⟨b0, o0, eo0, cap0, k2, n, t, rfl, hb0, hx, _, q2, htl, r0⟩ := val_at hw hL (SameH.refl h) hil
    have hv := printV_len (k := k2) (t := t) q2.1 q2.2 (itoa_len q2)
    have t1 := strOp_add (a := printR q k c p (L.take i)) (b := [32]) (by simp only [List.length_cons, List.length_nil]; omega)
    have t2 := strOp_add (a := printR q k c p (L.take i) ++ [32]) (b := printV k2 n t) (by simp only [List.length_append, List.length_cons, List.length_nil]; omega)
    rw [← printC_at hx] at t2
    repeat' (first
    | with_reducible refine r_seq ?_
    | with_reducible refine r_next ?_
    | with_reducible refine r_block ?_
    | with_reducible refine r_seq_exit ?_
    | with_reducible refine r_seq_ret ?_
    | with_reducible refine r_blk_n ?_
    | with_reducible refine r_blk_ret ?_
    | with_reducible refine r_blk_hit ?_
    | with_reducible refine r_blk_miss rfl ?_
    | with_reducible refine r_skip ?_
    | with_reducible refine r_exit ?_
    | with_reducible refine r_ret ?_
    | with_reducible refine r_rq_exit ?_
    | with_reducible refine r_rq_ret ?_
    | ((with_reducible apply r_regA); (focus (simp only [List.append_eq, List.cons_append, List.nil_append] <;> rfl)); (focus (first | exact Nat.le_of_ble_eq_true rfl | (simp only [List.length_cons, List.length_nil]; omega))))
    | ((with_reducible refine r_reg (List.toList_toArray) ?_ ?_); focus (first | exact Nat.le_of_ble_eq_true rfl | (simp only [List.length_cons, List.length_nil]; omega)))
    | ((with_reducible apply r_drawL); (focus kernel_rfl); (focus kernel_rfl); (focus (first | exact Nat.le_of_ble_eq_true rfl | (simp only [List.length_cons, List.length_nil]; omega))))
    | ((with_reducible apply r_end); focus (simp only [Nat.add_assoc, Nat.reduceAdd, Nat.zero_add] <;> rfl))
    | ((with_reducible (first | apply r_move | apply r_assign)); (focus (simp only [Tget_set, Nat.reduceEqDiff, ↓reduceIte, u3, u4] <;> rfl)); (focus (exact Nat.le_of_ble_eq_true rfl)))
    | ((with_reducible apply r_condT); (focus (simp only [Tget_set, ↓reduceIte] <;> rfl)))
    | ((with_reducible (first | apply r_any | apply r_cond)); focus (simp only [↓reduceIte, clsOf, clsCall, Fr.ev, evs, ofV, ofA, ofS, put_mk, pureOp, readOp, pFA, pFA1, pFA2, rLd, rdAB_row, oneCell_one, someAgg_s, hget_same, hget_hset_ite, pBin, binA, intOp_lss, List.length_cons, List.length_nil, List.getElem?_cons_zero, List.getElem?_cons_succ, List.drop_zero, List.drop_succ_cons, List.take_succ_cons, List.take_zero, Nat.zero_add, Nat.reduceAdd, Nat.reduceLT, Nat.reduceLeDiff, Nat.reduceEqDiff, Nat.add_eq, loadA_w, loadW_a, loadW_s, callTo_s, heavyCall, target, pEx, List.nil_append, List.append_nil, binA, stepOp, stHeavy, stV_mk, stO_mk, sz23, ag23, Tryz.underlying25, sz79, ag79, stepAny, wantedA_none, rCall, rLen, Tget_set, u1, lA, lt_t hil, pIA_s Tryz.underlying23 sz79 hil, r0, ky_old hb0, k_vprint q2 htl, t1, t2, intOp_add (inR_succ hil hL.len)] <;> rfl))
    | (with_reducible rw [ifQ_t])
    | (with_reducible rw [ifQ_f])
    | (with_reducible refine ifQ_intro ?_ ?_ <;> intro hb))
    exact r_rq_n (k := L.length - (i + 1)) (by omega) ⟨_, _, i + 1, rfl, rfl, by omega, rfl, by omega, (by first | (simp only [Tget_set, Nat.reduceEqDiff, ↓reduceIte, u1] <;> rfl) | rfl), (by first | (simp only [Tget_set, Nat.reduceEqDiff, ↓reduceIte] <;> rfl) | rfl), (by first | (simp only [Tget_set, ↓reduceIte] <;> rfl) | rfl)⟩
  · have hend : i = L.length := by omega
    repeat' (first
    | with_reducible refine r_seq ?_
    | with_reducible refine r_next ?_
    | with_reducible refine r_block ?_
    | with_reducible refine r_seq_exit ?_
    | with_reducible refine r_seq_ret ?_
    | with_reducible refine r_blk_n ?_
    | with_reducible refine r_blk_ret ?_
    | with_reducible refine r_blk_hit ?_
    | with_reducible refine r_blk_miss rfl ?_
    | with_reducible refine r_skip ?_
    | with_reducible refine r_exit ?_
    | with_reducible refine r_ret ?_
    | with_reducible refine r_rq_exit ?_
    | with_reducible refine r_rq_ret ?_
    | ((with_reducible apply r_regA); (focus (simp only [List.append_eq, List.cons_append, List.nil_append] <;> rfl)); (focus (first | exact Nat.le_of_ble_eq_true rfl | (simp only [List.length_cons, List.length_nil]; omega))))
    | ((with_reducible refine r_reg (List.toList_toArray) ?_ ?_); focus (first | exact Nat.le_of_ble_eq_true rfl | (simp only [List.length_cons, List.length_nil]; omega)))
    | ((with_reducible apply r_drawL); (focus kernel_rfl); (focus kernel_rfl); (focus (first | exact Nat.le_of_ble_eq_true rfl | (simp only [List.length_cons, List.length_nil]; omega))))
    | ((with_reducible apply r_end); focus (simp only [Nat.add_assoc, Nat.reduceAdd, Nat.zero_add] <;> rfl))
    | ((with_reducible (first | apply r_move | apply r_assign)); (focus (simp only [Tget_set, Nat.reduceEqDiff, ↓reduceIte, u3, u4] <;> rfl)); (focus (exact Nat.le_of_ble_eq_true rfl)))
    | ((with_reducible apply r_condT); (focus (simp only [Tget_set, ↓reduceIte] <;> rfl)))
    | ((with_reducible (first | apply r_any | apply r_cond)); focus (simp only [↓reduceIte, clsOf, clsCall, Fr.ev, put_mk, pureOp, readOp, pFA, pFA1, pFA2, rLd, rdAB_row, oneCell_one, hget_same, pBin, binA, intOp_lss, List.length_cons, List.length_nil, List.getElem?_cons_zero, List.getElem?_cons_succ, List.drop_zero, List.drop_succ_cons, List.take_succ_cons, List.take_zero, Nat.zero_add, Nat.reduceAdd, Nat.reduceLT, Nat.reduceLeDiff, Nat.reduceEqDiff, Nat.add_eq, loadA_w, loadW_s, binA, stepOp, stV_mk, sz23, ag23, Tryz.underlying25, stepAny, wantedA_none, rCall, rLen, Tget_set, u1, lA, lt_f hil] <;> rfl))
    | (with_reducible rw [ifQ_t])
    | (with_reducible rw [ifQ_f])
    | (with_reducible refine ifQ_intro ?_ ?_ <;> intro hb))
    subst hQ
    refine ret_back (by simp only [Tryz.results13, resultOf, resultsA, resultA, List.toList_toArray, Fr.ev, Tget_set, ↓reduceIte] <;> rfl) ?_
    exact ⟨_, by rw [hend, List.take_length], by repeat (first | exact Same.base _ _ _ | refine Same.hset hw ?_ (ky_le _ _))⟩
theorem k_vrprint {h h1 : Heap} {F : Nat} {q k c p : Int} {a : AV} {L : List (List AV)} (hL : LstP h ksV a L) (hq : in64 q) (hc : in64 c) (hp : in64 p) (hlen : L.length ≤ 90000) (hs : SameH h h1) : CallF.fn (KT S) 13 [.agg [.int .i64 q, .int .i64 k, .int .i64 c, .int .i64 p, a]] ⟨h1, F⟩ = some [.val (.str (printR q k c p L)) ⟨h1, F⟩] :=
  kt_fn ((rfl : _ = spRp [.agg [.int .i64 q, .int .i64 k, .int .i64 c, .int .i64 p, a]] ⟨h1, F⟩).trans (by simp only [spRp, lstOf_same hL hs])) (vrprint h1 F q k c p a L (hL.same hs) hq hc hp hlen)
end

end Go.Proofs.YtlbjmpbgnbpcoaaGreatDoor

namespace Go.Proofs.YtlbjmpbgnbpcoaaGreatDoor
open Go Go.Ai
set_option maxRecDepth 100000

section
variable {S : FuncId → List AV → St → Out → Prop}
theorem by_inj {a b : List UInt8} (h : byCells a = byCells b) : a = b := by
  have h1 := bsA_by a
  rw [h, bsA_by b] at h1
  exact (Option.some.inj h1).symm
theorem row_inj {t es : Nat} {a b : List AV} (h : mkRowT t a es = mkRowT t b es) : a = b := by
  have hl : a.length = b.length := by unfold mkRowT at h; injection h
  have h1 := rdAB_row a es 0 a.length
  have h2 := rdAB_row b es 0 b.length
  rw [if_pos (by omega), List.drop_zero, List.take_of_length_le (by omega), ← rdAB_rowT t] at h1 h2
  rw [h, hl, h2] at h1
  exact (Option.some.inj h1).symm
theorem buf_inj {h : Heap} {e A B A' B' : Nat} {buf : AV} {l l' : List UInt8} (h1 : Buf Tryz.prog h e A B buf l) (h2 : Buf Tryz.prog h e A' B' buf l') : l = l' := by
  rcases h1 with ⟨rfl, rfl⟩ | ⟨p1, k, rfl, g1, _⟩
  · rcases h2 with ⟨_, rfl⟩ | ⟨_, k, e, _⟩
    · rfl
    · cases e
  · rcases h2 with ⟨e, _⟩ | ⟨_, k', e, g2, _⟩
    · cases e
    · simp only [AV.slice.injEq] at e
      obtain ⟨rfl, _⟩ := e
      exact by_inj (row_inj (Option.some.inj (g1.symm.trans g2)))
theorem bld_inj {h : Heap} {b A B A' B' tB e : Nat} {l l' : List UInt8} (h1 : Bld Tryz.prog h tB e b A B l) (h2 : Bld Tryz.prog h tB e b A' B' l') : l = l' := by
  obtain ⟨p, buf, g1, _, b1⟩ := h1
  obtain ⟨p', buf', g2, _, b2⟩ := h2
  obtain ⟨rfl, rfl⟩ := bRowT_inj (Option.some.inj (g1.symm.trans g2))
  exact buf_inj b1 b2
theorem Bld.move {h h' : Heap} {b A B tB e : Nat} {l : List UInt8} (o : Bld Tryz.prog h tB e b A B l) (hb : hget h' b = hget h b) (hg : ∀ i, ky A 0 ≤ i → i < ky B 0 → hget h' i = hget h i) : Bld Tryz.prog h' tB e b A B l := by
  obtain ⟨p, buf, g1, g2, b1⟩ := o
  exact ⟨p, buf, hb.trans g1, g2, Buf.move b1 hg⟩
theorem wstrQ {h : Heap} {F b : Nat} {x l : List UInt8} {A B : Nat} (hB : Bld Tryz.prog h 98 5 b A B l) (hbA : b < ky A 0) (hAB : A ≤ B) (hBF : B ≤ F) (hlen : l.length + x.length ≤ 400000000) : SndQ Tryz.prog GL 35 [.ptr b 0, .str x] ⟨h, F⟩ (ST A 35 [.ptr b 0, .str x] ⟨h, F⟩) :=
  (wstr h F b x l A B hB hbA hAB hBF hlen).mono fun o ⟨h', e, h1, h2⟩ => fun l' B' hB' => by obtain rfl := bld_inj hB hB'; exact ⟨h', e, h1, h2⟩
theorem wbytQ {h : Heap} {F b : Nat} {l : List UInt8} {A B : Nat} (hB : Bld Tryz.prog h 98 5 b A B l) (hbA : b < ky A 0) (hAB : A ≤ B) (hBF : B ≤ F) (hlen : l.length + 1 ≤ 400000000) : SndQ Tryz.prog GL 36 [.ptr b 0, .int .u8 10] ⟨h, F⟩ (ST A 36 [.ptr b 0, .int .u8 10] ⟨h, F⟩) :=
  (wbyt h F b l A B hB hbA hAB hBF hlen).mono fun o ⟨h', e, h1, h2⟩ => fun l' B' hB' => by obtain rfl := bld_inj hB hB'; exact ⟨h', e, h1, h2⟩
theorem strgQ {h : Heap} {F b : Nat} {l : List UInt8} {A B : Nat} (hB : Bld Tryz.prog h 98 5 b A B l) (hBF : B ≤ F) (hlen : l.length ≤ 400000000) : SndQ Tryz.prog GL 37 [.ptr b 0] ⟨h, F⟩ (ST A 37 [.ptr b 0] ⟨h, F⟩) :=
  (strg h F b l A B hB hBF hlen).mono fun o ⟨h', e, h1⟩ => fun l' B' hB' => by obtain rfl := bld_inj hB hB'; exact ⟨h', e, h1⟩
theorem tabT_at {X : List (List AV)} {Y : List (List (List AV))} {i : Nat} {q k c p : Int} {v : AV} {o : List (List AV)} (hx : X[i]? = some [.int .i64 q, .int .i64 k, .int .i64 c, .int .i64 p, v]) (ho : Y[i]? = some o) : tabT (X.take (i + 1)) (Y.take (i + 1)) = tabT (X.take i) (Y.take i) ++ (printR q k c p o ++ [10]) := tabT_take hx ho
theorem tabT_len {h : Heap} {a : AV} {X : List (List AV)} {Y : List (List (List AV))} (hA : RowN h ksR 4 ksV a X Y) (hY : ∀ l ∈ Y, l.length ≤ 2000) : ∀ i, i ≤ X.length → (tabT (X.take i) (Y.take i)).length ≤ 262101 * i
  | 0, _ => by simp [tabT]
  | i + 1, hi => by
    have ih := tabT_len hA hY i (by omega)
    obtain ⟨q, k, c, p, v, el, q1, _, q3, q4⟩ := cks_R (hA.1.ok (show i < X.length by omega))
    have hx : X[i]? = some [.int .i64 q, .int .i64 k, .int .i64 c, .int .i64 p, v] := by rw [List.getElem?_eq_getElem (by omega), el]
    obtain ⟨v', l, g1, g2, g3⟩ := hA.get hx
    have hl := hY l (List.mem_of_getElem? g2)
    have hj := printR_len (k := k) g3 q1 q3 q4 l.length (Nat.le_refl _)
    rw [List.take_length] at hj
    rw [tabT_at hx g2]; simp only [List.length_append, List.length_cons, List.length_nil]; omega
set_option maxHeartbeats 4000000 in
theorem ptable (h : Heap) (F : Nat) (a : AV) (X : List (List AV)) (Y : List (List (List AV))) (hA : RowN h ksR 4 ksV a X Y) (hX : X.length ≤ 1000) (hY : ∀ l ∈ Y, l.length ≤ 2000) : Snd Tryz.prog GL 8 [a] ⟨h, F⟩ [.val (.str (tabT X Y)) ⟨h, F⟩] := by
  refine snd_val (by simp [Kin]) fun hw => ?_
  have mxl : maxLen = 9223372036854775807 := by decide
  have lA := fun (h2 : Heap) => rLen1_L (h2 := h2) Tryz.underlying22 hA.1
  have hYl := hA.len
  have hbA := (ky_in (F := F) (c := 1) (by decide)).2
  refine sndQ_body (K := (KT (ST (F + 1)))) kt_ok mixed noNum (m := X.length + 1) Tryz.func8 ?_
  generalize hQ : retQ _ _ _ _ _ _ = Q0
  refine body_go (c := Tryz.f8.body.getD .skip) (n := 18) rfl rfl (by simp only [↓reduceIte, T.setList, T.set_e] <;> rfl) ?_
  simp only [Tryz.f8, Option.getD_some]
  repeat' (first
  | with_reducible refine r_seq ?_
  | with_reducible refine r_next ?_
  | with_reducible refine r_block ?_
  | with_reducible refine r_seq_exit ?_
  | with_reducible refine r_seq_ret ?_
  | with_reducible refine r_blk_n ?_
  | with_reducible refine r_blk_ret ?_
  | with_reducible refine r_blk_hit ?_
  | with_reducible refine r_blk_miss rfl ?_
  | with_reducible refine r_skip ?_
  | with_reducible refine r_exit ?_
  | with_reducible refine r_ret ?_
  | with_reducible refine r_rq_exit ?_
  | with_reducible refine r_rq_ret ?_
  | ((with_reducible apply r_regA); (focus (simp only [List.append_eq, List.cons_append, List.nil_append] <;> rfl)); (focus (first | exact Nat.le_of_ble_eq_true rfl | (simp only [List.length_cons, List.length_nil]; omega))))
  | ((with_reducible refine r_reg (List.toList_toArray) ?_ ?_); focus (first | exact Nat.le_of_ble_eq_true rfl | (simp only [List.length_cons, List.length_nil]; omega)))
  | ((with_reducible apply r_drawL); (focus kernel_rfl); (focus kernel_rfl); (focus (first | exact Nat.le_of_ble_eq_true rfl | (simp only [List.length_cons, List.length_nil]; omega))))
  | ((with_reducible apply r_end); focus (simp only [Nat.reduceAdd, Nat.zero_add] <;> rfl))
  | ((with_reducible (first | apply r_move | apply r_assign)); (focus (simp only [T.get_n, ↓reduceIte] <;> rfl)); (focus (exact Nat.le_of_ble_eq_true rfl)))
  | ((with_reducible apply r_condT); (focus (simp only [Tget_set, T.get_n, T.get_e, Nat.reduceEqDiff, Nat.reduceDiv, Nat.reduceMod, Nat.reduceSub, ↓reduceIte, if_true, if_false] <;> rfl)))
  | ((with_reducible (first | apply r_any | apply r_cond)); focus (simp only [↓reduceIte, clsOf, clsCall, newBlk, allocOp, Fr.ev, ofV, ofA, ofS, nVar, AV.cells, rowT_mk, put_mk, upd_mk, keyOf_mk, pureOp, readOp, List.getElem?_cons_zero, Nat.add_zero, Nat.reduceAdd, Nat.reduceLT, Nat.reduceEqDiff, Nat.reduceSub, stepOp, stV_mk, stB_mk, T.get_n, T.set_n, T.set_e, Nat.reduceDiv, Nat.reduceMod, zr98, tg98, stepAny, wantedA_none, rCall, rLen, lA] <;> rfl))
  | (with_reducible rw [ifQ_t])
  | (with_reducible rw [ifQ_f])
  | (with_reducible refine ifQ_intro ?_ ?_ <;> intro hb))
  refine r_loop (I := fun nn fr s1 => ∃ lc tt h1 i F1, fr = ⟨F, lc, 18, tt, [], .no⟩ ∧ s1 = ⟨h1, F1⟩ ∧ F + 1 ≤ F1 ∧ i ≤ X.length ∧ nn = X.length - i ∧ 2 ≤ lc ∧ lc + nn * 1000 ≤ 100000000000000000000000000 ∧ Low F h h1 ∧ tt.get 3 = some (.ptr (ky F 1) 0) ∧ tt.get 6 = some a ∧ tt.get 7 = some (.int .i64 (X.length : Int)) ∧ tt.get 8 = some (.int .i64 (i : Int)) ∧ Bld Tryz.prog h1 98 5 (ky F 1) (F + 1) F1 (tabT (X.take i) (Y.take i))) (n := X.length) ?_ ?_ ?_
  · omega
  · refine ⟨_, _, _, 0, _, rfl, rfl, Nat.le_refl _, Nat.zero_le _, (Nat.sub_zero _).symm, by omega, by omega, ?_, (by first | (simp only [T.get_n, Nat.reduceEqDiff, Nat.reduceDiv, Nat.reduceMod, ↓reduceIte] <;> rfl) | rfl), (by first | (simp only [T.get_n, Nat.reduceEqDiff, Nat.reduceDiv, Nat.reduceMod, Nat.reduceSub, ↓reduceIte] <;> rfl) | rfl), (by first | (simp only [T.get_n, Nat.reduceEqDiff, Nat.reduceDiv, Nat.reduceMod, ↓reduceIte] <;> rfl) | rfl), (by first | (simp only [T.get_n, Nat.reduceEqDiff, Nat.reduceDiv, Nat.reduceMod, Nat.reduceSub, ↓reduceIte] <;> rfl) | rfl), ⟨.nilp, .nils, ?_, .inl rfl, .inl ⟨rfl, rfl⟩⟩⟩
    · exact (Low.refl F h).set (Nat.le_refl F)
    · rw [hget_hset, if_pos rfl]; rfl
  rintro nn fr s1 ⟨lc, tt, h1, i, F1, rfl, rfl, hF1, hi, rfl, hl2, hlc, hlow, u3, u6, u7, u8, hB⟩
  have hS := hlow.same hw
  have hln := tabT_len hA hY i hi
  by_cases hil : i < X.length
  · obtain ⟨b1, o1, eo1, cap1, q, k, c, p, v, l, rfl, hb1, hx, hy, q1, _, q3, q4, hl, r1, _⟩ := res_at hw hA hS hil
    have hll := hY l (List.mem_of_getElem? hy)
    have hj := printR_len (k := k) hl q1 q3 q4 l.length (Nat.le_refl _)
    rw [List.take_length] at hj
    repeat' (first
    | with_reducible refine r_seq ?_
    | with_reducible refine r_next ?_
    | with_reducible refine r_block ?_
    | with_reducible refine r_seq_exit ?_
    | with_reducible refine r_seq_ret ?_
    | with_reducible refine r_blk_n ?_
    | with_reducible refine r_blk_ret ?_
    | with_reducible refine r_blk_hit ?_
    | with_reducible refine r_blk_miss rfl ?_
    | with_reducible refine r_skip ?_
    | with_reducible refine r_exit ?_
    | with_reducible refine r_ret ?_
    | with_reducible refine r_rq_exit ?_
    | with_reducible refine r_rq_ret ?_
    | ((with_reducible apply r_regA); (focus (simp only [List.append_eq, List.cons_append, List.nil_append] <;> rfl)); (focus (first | exact Nat.le_of_ble_eq_true rfl | (simp only [List.length_cons, List.length_nil]; omega))))
    | ((with_reducible refine r_reg (List.toList_toArray) ?_ ?_); focus (first | exact Nat.le_of_ble_eq_true rfl | (simp only [List.length_cons, List.length_nil]; omega)))
    | ((with_reducible apply r_drawL); (focus kernel_rfl); (focus kernel_rfl); (focus (first | exact Nat.le_of_ble_eq_true rfl | (simp only [List.length_cons, List.length_nil]; omega))))
    | ((with_reducible apply r_end); focus (simp only [Nat.add_assoc, Nat.reduceAdd, Nat.zero_add] <;> rfl))
    | ((with_reducible (first | apply r_move | apply r_assign)); (focus (simp only [Tget_set, T.get_n, T.get_e, Nat.reduceEqDiff, Nat.reduceDiv, Nat.reduceMod, Nat.reduceSub, ↓reduceIte, if_true, if_false, u3, u6, u7, u8] <;> rfl)); (focus (exact Nat.le_of_ble_eq_true rfl)))
    | ((with_reducible apply r_condT); (focus (simp only [Tget_set, ↓reduceIte] <;> rfl)))
    | ((with_reducible (first | apply r_any | apply r_cond)); focus (simp only [↓reduceIte, clsOf, clsCall, newBlk, allocOp, Fr.ev, evs, nVar, AV.cells, rowOf_mk, put_mk, put_none, upd_mk, keyOf_mk, pureOp, readOp, rLd, rdAB_row, someAgg_s, hget_same, pBin, binA, intOp_lss, List.length_cons, List.length_nil, List.drop_zero, List.take_succ_cons, List.take_zero, Nat.zero_add, Nat.reduceAdd, Nat.reduceLT, Nat.reduceLeDiff, Nat.reduceEqDiff, and_self, loadA_w, loadW_a, aSt_w, stOut_s, wrAB_row, ovr, List.set_cons_zero, List.set_cons_succ, allCell, ic_i, callTo_s, heavyCall, target, actOp, List.nil_append, List.append_nil, binA, stepOp, stHeavy, stV_mk, stB_mk, stO_mk, sz25, ag25, zr25, tg25, stepAny, wantedA_none, Tget_set, u3, u6, u7, u8, lt_t hil, pIA_s Tryz.underlying22 sz25 hil, r1, isCell_L hl, k_rprint hl q1 q3 q4 (show l.length ≤ 90000 by omega), hS, sameS hw] <;> rfl))
    | (with_reducible rw [ifQ_t])
    | (with_reducible rw [ifQ_f])
    | (with_reducible refine ifQ_intro ?_ ?_ <;> intro hb))
    have hB2 := Bld.move (h' := (hset (hset h1 (ky F (lc + 1 + 2)) (mkRow [.int .i64 0, .int .i64 0, .int .i64 0, .int .i64 0, .nils] 0)) (ky F (lc + 1 + 2)) (mkRow [.int .i64 q, .int .i64 k, .int .i64 c, .int .i64 p, v] 0))) hB (by rw [hget_hset, if_neg (by rw [ky_inj]; omega), hget_hset, if_neg (by rw [ky_inj]; omega)]) (fun j hj1 hj2 => by have := (ky_in (F := F) (c := lc + 1 + 2) (by omega)).2; rw [hget_hset, if_neg (by omega), hget_hset, if_neg (by omega)])
    refine r_callC (S := ST (F + 1)) (f := 35) (by first | rfl | (simp only [wantedA_none, Tget_set])) (by simp only [callOuts, callTo_s, target, evs, Fr.ev, Tget_set, Nat.reduceEqDiff, ↓reduceIte, List.nil_append, List.append_nil, u3]; exact kc_miss rfl) ?_ ?_
    · exact wstrQ hB2 hbA (by omega) (Nat.le_refl _) (by omega)
    intro o ho
    obtain ⟨h3, rfl, hB3, hbut3⟩ := ho _ _ hB2
    refine ⟨_, by simp only [put_mk, Nat.reduceLT, ↓reduceIte] <;> rfl, ?_⟩
    have hln2 : (tabT (X.take i) (Y.take i) ++ printR q k c p l).length + 1 ≤ 400000000 := by rw [List.length_append]; omega
    repeat' (first
    | with_reducible refine r_seq ?_
    | with_reducible refine r_next ?_
    | with_reducible refine r_block ?_
    | with_reducible refine r_seq_exit ?_
    | with_reducible refine r_seq_ret ?_
    | with_reducible refine r_blk_n ?_
    | with_reducible refine r_blk_ret ?_
    | with_reducible refine r_blk_hit ?_
    | with_reducible refine r_blk_miss rfl ?_
    | with_reducible refine r_skip ?_
    | with_reducible refine r_exit ?_
    | with_reducible refine r_ret ?_
    | with_reducible refine r_rq_exit ?_
    | with_reducible refine r_rq_ret ?_
    | ((with_reducible apply r_regA); (focus (simp only [List.append_eq, List.cons_append, List.nil_append] <;> rfl)); (focus (first | exact Nat.le_of_ble_eq_true rfl | (simp only [List.length_cons, List.length_nil]; omega))))
    | ((with_reducible refine r_reg (List.toList_toArray) ?_ ?_); focus (first | exact Nat.le_of_ble_eq_true rfl | (simp only [List.length_cons, List.length_nil]; omega)))
    | ((with_reducible apply r_drawL); (focus kernel_rfl); (focus kernel_rfl); (focus (first | exact Nat.le_of_ble_eq_true rfl | (simp only [List.length_cons, List.length_nil]; omega))))
    | ((with_reducible apply r_end); focus (simp only [Nat.add_assoc, Nat.reduceAdd, Nat.zero_add] <;> rfl))
    | ((with_reducible (first | apply r_move | apply r_assign)); (focus (simp only [Tget_set, T.get_n, T.get_e, Nat.reduceEqDiff, Nat.reduceDiv, Nat.reduceMod, Nat.reduceSub, ↓reduceIte, if_true, if_false, u3, u6, u7, u8] <;> rfl)); (focus (exact Nat.le_of_ble_eq_true rfl)))
    | ((with_reducible apply r_condT); (focus (simp only [Tget_set, T.get_n, T.get_e, Nat.reduceEqDiff, Nat.reduceDiv, Nat.reduceMod, Nat.reduceSub, ↓reduceIte, if_true, if_false, u3, u6, u7, u8] <;> rfl)))
    | ((with_reducible (first | apply r_any | apply r_cond)); focus (simp only [↓reduceIte, clsOf, clsCall, Fr.ev, evs, ofV, ofA, ofS, Nat.reduceEqDiff, callTo_s, heavyCall, target, List.nil_append, List.append_nil, stepOp, stHeavy, stepAny, wantedA_none, Tget_set, u3] <;> rfl))
    | (with_reducible rw [ifQ_t])
    | (with_reducible rw [ifQ_f])
    | (with_reducible refine ifQ_intro ?_ ?_ <;> intro hb))
    refine r_callC (S := ST (F + 1)) (f := 36) (by first | rfl | (simp only [wantedA_none, Tget_set])) (by simp only [callOuts, callTo_s, target, evs, Fr.ev, Tget_set, Nat.reduceEqDiff, ↓reduceIte, List.nil_append, List.append_nil, ofV, ofA, ofS, u3]; exact kc_miss rfl) ?_ ?_
    · exact wbytQ hB3 hbA (by show F + 1 ≤ F1 + 1; omega) (Nat.le_refl _) hln2
    intro o ho
    obtain ⟨h4, rfl, hB4, hbut4⟩ := ho _ _ hB3
    refine ⟨_, by simp only [put_mk, Nat.reduceLT, ↓reduceIte] <;> rfl, ?_⟩
    repeat' (first
    | with_reducible refine r_seq ?_
    | with_reducible refine r_next ?_
    | with_reducible refine r_block ?_
    | with_reducible refine r_seq_exit ?_
    | with_reducible refine r_seq_ret ?_
    | with_reducible refine r_blk_n ?_
    | with_reducible refine r_blk_ret ?_
    | with_reducible refine r_blk_hit ?_
    | with_reducible refine r_blk_miss rfl ?_
    | with_reducible refine r_skip ?_
    | with_reducible refine r_exit ?_
    | with_reducible refine r_ret ?_
    | with_reducible refine r_rq_exit ?_
    | with_reducible refine r_rq_ret ?_
    | ((with_reducible apply r_regA); (focus (simp only [List.append_eq, List.cons_append, List.nil_append] <;> rfl)); (focus (first | exact Nat.le_of_ble_eq_true rfl | (simp only [List.length_cons, List.length_nil]; omega))))
    | ((with_reducible refine r_reg (List.toList_toArray) ?_ ?_); focus (first | exact Nat.le_of_ble_eq_true rfl | (simp only [List.length_cons, List.length_nil]; omega)))
    | ((with_reducible apply r_drawL); (focus kernel_rfl); (focus kernel_rfl); (focus (first | exact Nat.le_of_ble_eq_true rfl | (simp only [List.length_cons, List.length_nil]; omega))))
    | ((with_reducible apply r_end); focus (simp only [Nat.add_assoc, Nat.reduceAdd, Nat.zero_add] <;> rfl))
    | ((with_reducible (first | apply r_move | apply r_assign)); (focus (simp only [Tget_set, ↓reduceIte] <;> rfl)); (focus (exact Nat.le_of_ble_eq_true rfl)))
    | ((with_reducible apply r_condT); (focus (simp only [Tget_set, T.get_n, T.get_e, Nat.reduceEqDiff, Nat.reduceDiv, Nat.reduceMod, Nat.reduceSub, ↓reduceIte, if_true, if_false, u3, u6, u7, u8] <;> rfl)))
    | ((with_reducible (first | apply r_any | apply r_cond)); focus (simp only [↓reduceIte, clsOf, Fr.ev, ofV, ofA, ofS, put_mk, pureOp, pBin, binA, Nat.reduceLT, Nat.reduceEqDiff, binA, stepOp, stV_mk, stepAny, wantedA_none, Tget_set, u8, intOp_add (inR_succ hil hA.1.len)] <;> rfl))
    | (with_reducible rw [ifQ_t])
    | (with_reducible rw [ifQ_f])
    | (with_reducible refine ifQ_intro ?_ ?_ <;> intro hb))
    refine r_rq_n (k := X.length - (i + 1)) (by omega) ⟨_, _, _, i + 1, F1 + 1 + 1, rfl, rfl, by omega, by omega, rfl, by omega, by omega, ?_, (by first | (simp only [Tget_set, Nat.reduceEqDiff, ↓reduceIte, u3] <;> rfl) | rfl), (by first | (simp only [Tget_set, Nat.reduceEqDiff, ↓reduceIte, u6] <;> rfl) | rfl), (by first | (simp only [Tget_set, Nat.reduceEqDiff, ↓reduceIte, u7] <;> rfl) | rfl), (by first | (simp only [Tget_set, ↓reduceIte] <;> rfl) | rfl), ?_⟩
    · intro j hj0
      have hk1 := ky_le F 1
      have hkk := ky_mono (show F ≤ F + 1 by omega)
      rw [hbut4 j (by omega) (.inl (by omega)), hbut3 j (by omega) (.inl (by omega))]
      show hget (hset (hset h1 (ky F (lc + 1 + 2)) (mkRow [.int .i64 0, .int .i64 0, .int .i64 0, .int .i64 0, .nils] 0)) (ky F (lc + 1 + 2)) (mkRow [.int .i64 q, .int .i64 k, .int .i64 c, .int .i64 p, v] 0)) j = _
      have hk2 := ky_le F (lc + 1 + 2)
      rw [hget_hset, if_neg (by omega), hget_hset, if_neg (by omega)]
      exact hlow j hj0
    · rw [tabT_at hx hy, ← List.append_assoc]; exact hB4
  · have hend : i = X.length := by omega
    rw [hend, List.take_length, ← hYl, List.take_length] at hB
    rw [hend, List.take_length, ← hYl, List.take_length] at hln
    repeat' (first
    | with_reducible refine r_seq ?_
    | with_reducible refine r_next ?_
    | with_reducible refine r_block ?_
    | with_reducible refine r_seq_exit ?_
    | with_reducible refine r_seq_ret ?_
    | with_reducible refine r_blk_n ?_
    | with_reducible refine r_blk_ret ?_
    | with_reducible refine r_blk_hit ?_
    | with_reducible refine r_blk_miss rfl ?_
    | with_reducible refine r_skip ?_
    | with_reducible refine r_exit ?_
    | with_reducible refine r_ret ?_
    | with_reducible refine r_rq_exit ?_
    | with_reducible refine r_rq_ret ?_
    | ((with_reducible apply r_regA); (focus (simp only [List.append_eq, List.cons_append, List.nil_append] <;> rfl)); (focus (first | exact Nat.le_of_ble_eq_true rfl | (simp only [List.length_cons, List.length_nil]; omega))))
    | ((with_reducible refine r_reg (List.toList_toArray) ?_ ?_); focus (first | exact Nat.le_of_ble_eq_true rfl | (simp only [List.length_cons, List.length_nil]; omega)))
    | ((with_reducible apply r_drawL); (focus kernel_rfl); (focus kernel_rfl); (focus (first | exact Nat.le_of_ble_eq_true rfl | (simp only [List.length_cons, List.length_nil]; omega))))
    | ((with_reducible apply r_end); focus (simp only [Nat.zero_add] <;> rfl))
    | ((with_reducible (first | apply r_move | apply r_assign)); (focus (simp only [Tget_set, T.get_n, T.get_e, Nat.reduceEqDiff, Nat.reduceDiv, Nat.reduceMod, Nat.reduceSub, ↓reduceIte, if_true, if_false, u3, u6, u7, u8] <;> rfl)); (focus (exact Nat.le_of_ble_eq_true rfl)))
    | ((with_reducible apply r_condT); (focus (simp only [Tget_set, ↓reduceIte] <;> rfl)))
    | ((with_reducible (first | apply r_any | apply r_cond)); focus (simp only [↓reduceIte, clsOf, clsCall, Fr.ev, evs, put_mk, pureOp, pBin, binA, intOp_lss, Nat.reduceLT, Nat.reduceEqDiff, callTo_s, heavyCall, target, List.nil_append, List.append_nil, binA, stepOp, stHeavy, stV_mk, stepAny, wantedA_none, Tget_set, u3, u7, u8, lt_f hil] <;> rfl))
    | (with_reducible rw [ifQ_t])
    | (with_reducible rw [ifQ_f])
    | (with_reducible refine ifQ_intro ?_ ?_ <;> intro hb))
    refine r_callC (S := ST (F + 1)) (f := 37) (by first | rfl | (simp only [wantedA_none, Tget_set])) (by simp only [callOuts, callTo_s, target, evs, Fr.ev, Tget_set, Nat.reduceEqDiff, ↓reduceIte, List.nil_append, List.append_nil, u3]; exact kc_miss rfl) ?_ ?_
    · exact strgQ hB (Nat.le_refl _) (by omega)
    intro o ho
    obtain ⟨h3, rfl, hlow3⟩ := ho _ _ hB
    refine ⟨_, by simp only [put_mk, Nat.reduceLT, ↓reduceIte] <;> rfl, ?_⟩
    repeat' (first
    | with_reducible refine r_seq ?_
    | with_reducible refine r_next ?_
    | with_reducible refine r_block ?_
    | with_reducible refine r_seq_exit ?_
    | with_reducible refine r_seq_ret ?_
    | with_reducible refine r_blk_n ?_
    | with_reducible refine r_blk_ret ?_
    | with_reducible refine r_blk_hit ?_
    | with_reducible refine r_blk_miss rfl ?_
    | with_reducible refine r_skip ?_
    | with_reducible refine r_exit ?_
    | with_reducible refine r_ret ?_
    | with_reducible refine r_rq_exit ?_
    | with_reducible refine r_rq_ret ?_
    | ((with_reducible apply r_regA); (focus (simp only [List.append_eq, List.cons_append, List.nil_append] <;> rfl)); (focus (first | exact Nat.le_of_ble_eq_true rfl | (simp only [List.length_cons, List.length_nil]; omega))))
    | ((with_reducible refine r_reg (List.toList_toArray) ?_ ?_); focus (first | exact Nat.le_of_ble_eq_true rfl | (simp only [List.length_cons, List.length_nil]; omega)))
    | ((with_reducible apply r_drawL); (focus kernel_rfl); (focus kernel_rfl); (focus (first | exact Nat.le_of_ble_eq_true rfl | (simp only [List.length_cons, List.length_nil]; omega))))
    | ((with_reducible apply r_end); focus (simp only [Nat.add_assoc, Nat.reduceAdd, Nat.zero_add] <;> rfl))
    | ((with_reducible (first | apply r_move | apply r_assign)); (focus (simp only [Tget_set, ↓reduceIte] <;> rfl)); (focus (exact Nat.le_of_ble_eq_true rfl)))
    | ((with_reducible apply r_condT); (focus (simp only [Tget_set, T.get_n, T.get_e, Nat.reduceEqDiff, Nat.reduceDiv, Nat.reduceMod, Nat.reduceSub, ↓reduceIte, if_true, if_false, u3] <;> rfl)))
    | ((with_reducible (first | apply r_any | apply r_cond)); focus (simp only [↓reduceIte, wantedA_eq, gBool_t, gBool_f, Bool.not_true, Bool.not_false, Bool.not_not, clsOf, clsCall, newBlk, allocOp, ev_tmp, Fr.ev, evs, evParts, ofV, ofA, ofS, ofSs, ofAs, nVar, AV.cells, rowOf_mk, rowT_mk, mkRowT_0, put_mk, put_none, upd_mk, withH_mk, keyOf_mk, ky_inj, pureOp, readOp, T.get_e, pFA, pFA1, pFA2, rLd, rdAB_row, oneCell_one, someAgg_s, hget_same, hget_hset_ite, pBin, binA, intOp_eql, intOp_neq, intOp_lss, intOp_leq, intOp_gtr, intOp_geq, pPick, List.length_cons, List.length_nil, List.getElem?_cons_zero, List.getElem?_cons_succ, List.drop_zero, List.drop_succ_cons, List.take_succ_cons, List.take_zero, Nat.zero_add, Nat.add_zero, Nat.reduceAdd, Nat.reduceLT, Nat.reduceLeDiff, Nat.reduceEqDiff, Nat.reduceMul, Nat.reduceSub, Nat.succ_eq_add_one, if_true, if_false, true_and, and_true, and_self, List.toList_toArray, Nat.add_eq, Nat.mul_eq, Nat.sub_eq, loadA_w, loadW_a, loadW_s, aSt_w, stOut_s, wrAB_row, ovr, List.set_cons_zero, List.set_cons_succ, allCell, ic_b, ic_i, ic_s, ic_np, ic_p, ic_g, ic_ns, ic_h, ic_sl, ic_nm, ic_m, ic_nf, ic_f, ic_ni, ic_if, pUn_not, callTo_s, heavyCall, target, actOp, pEx, List.nil_append, List.append_nil, pNil, pBuild, pBuild2, fieldsOk, buildParts, List.getElem?_nil, pMkF, binA, eqIn, eqGuardOk, pF, pF1, partA, beq_self_eq_true, bne_self_eq_false, decide_true, decide_false, Int.reduceBEq, Int.reduceBNe, Int.reduceLT, Int.reduceLE, Int.reduceEq, Int.reduceNeg, Int.reduceAdd, Int.reduceSub, Bool.and_true, Bool.true_and, Bool.and_false, Bool.false_and, stepOp, stHeavy, stV_mk, stB_mk, stO_mk, T.get_n, T.set_n, T.set_e, Nat.reduceDiv, Nat.reduceMod, ofNat_z, sz2, ag2, zr2, tg2, Tryz.underlying2, sz3, ag3, zr3, tg3, Tryz.underlying3, sz5, ag5, zr5, tg5, Tryz.underlying5, sz9, ag9, zr9, tg9, Tryz.underlying9, sz22, ag22, zr22, tg22, Tryz.underlying22, sz23, ag23, zr23, tg23, Tryz.underlying23, sz25, ag25, zr25, tg25, Tryz.underlying25, sz79, ag79, zr79, tg79, Tryz.underlying79, sz95, ag95, zr95, tg95, Tryz.underlying95, sz96, ag96, zr96, tg96, Tryz.underlying96, sz98, ag98, zr98, tg98, Tryz.underlying98, stepAny, wantedA_none, rCall, rLen, rLen1_str, rLen1_sl, lenA, Tget_set, natOf_c, Nat.left_eq_add, Nat.add_eq_left, u3] <;> rfl))
    | (with_reducible rw [ifQ_t])
    | (with_reducible rw [ifQ_f])
    | (with_reducible refine ifQ_intro ?_ ?_ <;> intro hb))
    subst hQ
    refine ret_back (by simp only [Tryz.results8, resultOf, resultsA, resultA, List.toList_toArray, Fr.ev, Tget_set, ↓reduceIte] <;> rfl) ?_
    exact ⟨_, rfl, Low.same hw (hlow.trans (hlow3.down (by omega)))⟩
theorem k_ptable {h h1 : Heap} {F : Nat} {a : AV} {X : List (List AV)} {Y : List (List (List AV))} (hA : RowN h ksR 4 ksV a X Y) (hX : X.length ≤ 1000) (hY : ∀ l ∈ Y, l.length ≤ 2000) (hs : SameH h h1) : CallF.fn (KT S) 8 [a] ⟨h1, F⟩ = some [.val (.str (tabT X Y)) ⟨h1, F⟩] :=
  kt_fn ((rfl : _ = spTb [a] ⟨h1, F⟩).trans (by simp only [spTb, rowsOf_same hA hs])) (ptable h1 F a X Y (hA.same hs) hX hY)
set_option maxHeartbeats 4000000 in
theorem vtable (h : Heap) (F : Nat) (a : AV) (X : List (List AV)) (Y : List (List (List AV))) (hA : RowN h ksR 4 ksV a X Y) (hX : X.length ≤ 1000) (hY : ∀ l ∈ Y, l.length ≤ 2000) : Snd Tryz.prog GL 9 [a] ⟨h, F⟩ [.val (.str (tabT X Y)) ⟨h, F⟩] := by
  refine snd_val (by simp [Kin]) fun hw => ?_
  have mxl : maxLen = 9223372036854775807 := by decide
  have lA := fun (h2 : Heap) => rLen1_L (h2 := h2) Tryz.underlying22 hA.1
  have hYl := hA.len
  refine sndQ_body (K := (KT S0)) kt_ok mixed noNum (m := X.length + 1) Tryz.func9 ?_
  generalize hQ : retQ _ _ _ _ _ _ = Q0
  refine body_go (c := Tryz.f9.body.getD .skip) (n := 20) rfl rfl (by simp only [↓reduceIte, T.setList, T.set_e] <;> rfl) ?_
  simp only [Tryz.f9, Option.getD_some]
  repeat' (first
  | with_reducible refine r_seq ?_
  | with_reducible refine r_next ?_
  | with_reducible refine r_block ?_
  | with_reducible refine r_seq_exit ?_
  | with_reducible refine r_seq_ret ?_
  | with_reducible refine r_blk_n ?_
  | with_reducible refine r_blk_ret ?_
  | with_reducible refine r_blk_hit ?_
  | with_reducible refine r_blk_miss rfl ?_
  | with_reducible refine r_skip ?_
  | with_reducible refine r_exit ?_
  | with_reducible refine r_ret ?_
  | with_reducible refine r_rq_exit ?_
  | with_reducible refine r_rq_ret ?_
  | ((with_reducible apply r_regA); (focus (simp only [List.append_eq, List.cons_append, List.nil_append] <;> rfl)); (focus (first | exact Nat.le_of_ble_eq_true rfl | (simp only [List.length_cons, List.length_nil]; omega))))
  | ((with_reducible refine r_reg (List.toList_toArray) ?_ ?_); focus (first | exact Nat.le_of_ble_eq_true rfl | (simp only [List.length_cons, List.length_nil]; omega)))
  | ((with_reducible apply r_drawL); (focus kernel_rfl); (focus kernel_rfl); (focus (first | exact Nat.le_of_ble_eq_true rfl | (simp only [List.length_cons, List.length_nil]; omega))))
  | ((with_reducible apply r_end); focus (simp only [Nat.reduceAdd, Nat.zero_add] <;> rfl))
  | ((with_reducible (first | apply r_move | apply r_assign)); (focus (simp only [Tget_set, T.get_n, T.get_e, Nat.reduceEqDiff, Nat.reduceDiv, Nat.reduceMod, Nat.reduceSub, ↓reduceIte, if_true, if_false] <;> rfl)); (focus (exact Nat.le_of_ble_eq_true rfl)))
  | ((with_reducible apply r_condT); (focus (simp only [Tget_set, T.get_n, T.get_e, Nat.reduceEqDiff, Nat.reduceDiv, Nat.reduceMod, Nat.reduceSub, ↓reduceIte, if_true, if_false] <;> rfl)))
  | ((with_reducible (first | apply r_any | apply r_cond)); focus (simp only [↓reduceIte, clsOf, Fr.ev, ofV, ofA, ofS, put_mk, pureOp, Nat.reduceLT, Nat.reduceEqDiff, Nat.reduceSub, stepOp, stV_mk, T.set_n, T.set_e, Nat.reduceDiv, Nat.reduceMod, stepAny, wantedA_none] <;> rfl))
  | (with_reducible rw [ifQ_t])
  | (with_reducible rw [ifQ_f])
  | (with_reducible refine ifQ_intro ?_ ?_ <;> intro hb))
  refine r_loop (I := fun nn fr s1 => ∃ lc tt i, fr = ⟨F, lc, 20, tt, [], .no⟩ ∧ s1 = ⟨h, F + 1⟩ ∧ i ≤ X.length ∧ nn = X.length - i ∧ lc + nn * 1000 ≤ 100000000000000000000000000 ∧ tt.get 0 = some a ∧ tt.get 3 = some (.str (tabT (X.take i) (Y.take i))) ∧ tt.get 4 = some (.int .i64 (i : Int))) (n := X.length) ?_ ?_ ?_
  · omega
  · exact ⟨_, _, 0, rfl, rfl, Nat.zero_le _, (Nat.sub_zero _).symm, by omega, (by first | (simp only [T.get_n, ↓reduceIte] <;> rfl) | rfl), (by first | (simp only [T.get_n, Nat.reduceEqDiff, Nat.reduceDiv, Nat.reduceMod, ↓reduceIte] <;> rfl) | rfl), (by first | (simp only [T.get_n, Nat.reduceEqDiff, Nat.reduceDiv, Nat.reduceMod, Nat.reduceSub, ↓reduceIte] <;> rfl) | rfl)⟩
  rintro nn fr s1 ⟨lc, tt, i, rfl, rfl, hi, rfl, hlc, u0, u3, u4⟩
  have hln := tabT_len hA hY i hi
  by_cases hil : i < X.length
  · obtain ⟨b1, o1, eo1, cap1, q, k, c, p, v, l, rfl, hb1, hx, hy, q1, _, q3, q4, hl, r1, _⟩ := res_at hw hA (SameH.refl h) hil
    have hll := hY l (List.mem_of_getElem? hy)
    have hj := printR_len (k := k) hl q1 q3 q4 l.length (Nat.le_refl _)
    rw [List.take_length] at hj
    have t1 := strOp_add (a := tabT (X.take i) (Y.take i)) (b := printR q k c p l) (by omega)
    have t2 := strOp_add (a := tabT (X.take i) (Y.take i) ++ printR q k c p l) (b := [10]) (by simp only [List.length_append, List.length_cons, List.length_nil]; omega)
    have e := tabT_at hx hy
    rw [← List.append_assoc] at e
    rw [← e] at t2
    repeat' (first
    | with_reducible refine r_seq ?_
    | with_reducible refine r_next ?_
    | with_reducible refine r_block ?_
    | with_reducible refine r_seq_exit ?_
    | with_reducible refine r_seq_ret ?_
    | with_reducible refine r_blk_n ?_
    | with_reducible refine r_blk_ret ?_
    | with_reducible refine r_blk_hit ?_
    | with_reducible refine r_blk_miss rfl ?_
    | with_reducible refine r_skip ?_
    | with_reducible refine r_exit ?_
    | with_reducible refine r_ret ?_
    | with_reducible refine r_rq_exit ?_
    | with_reducible refine r_rq_ret ?_
    | ((with_reducible apply r_regA); (focus (simp only [List.append_eq, List.cons_append, List.nil_append] <;> rfl)); (focus (first | exact Nat.le_of_ble_eq_true rfl | (simp only [List.length_cons, List.length_nil]; omega))))
    | ((with_reducible refine r_reg (List.toList_toArray) ?_ ?_); focus (first | exact Nat.le_of_ble_eq_true rfl | (simp only [List.length_cons, List.length_nil]; omega)))
    | ((with_reducible apply r_drawL); (focus kernel_rfl); (focus kernel_rfl); (focus (first | exact Nat.le_of_ble_eq_true rfl | (simp only [List.length_cons, List.length_nil]; omega))))
    | ((with_reducible apply r_end); focus (simp only [Nat.add_assoc, Nat.reduceAdd, Nat.zero_add] <;> rfl))
    | ((with_reducible (first | apply r_move | apply r_assign)); (focus (simp only [Tget_set, Nat.reduceEqDiff, ↓reduceIte, u0, u3, u4] <;> rfl)); (focus (exact Nat.le_of_ble_eq_true rfl)))
    | ((with_reducible apply r_condT); (focus (simp only [Tget_set, ↓reduceIte] <;> rfl)))
    | ((with_reducible (first | apply r_any | apply r_cond)); focus (simp only [↓reduceIte, clsOf, clsCall, Fr.ev, evs, ofV, ofA, ofS, put_mk, pureOp, readOp, rLd, someAgg_s, pBin, binA, intOp_lss, List.getElem?_cons_zero, Nat.reduceLT, Nat.reduceEqDiff, loadA_w, loadW_a, callTo_s, heavyCall, target, List.nil_append, List.append_nil, binA, stepOp, stHeavy, stV_mk, stO_mk, sz25, ag25, stepAny, wantedA_none, rCall, rLen, Tget_set, lA, lt_t hil, pIA_s Tryz.underlying22 sz25 hil, r1, k_vrprint hl q1 q3 q4 (show l.length ≤ 90000 by omega), t1, t2, sameT, intOp_add (inR_succ hil hA.1.len)] <;> rfl))
    | (with_reducible rw [ifQ_t])
    | (with_reducible rw [ifQ_f])
    | (with_reducible refine ifQ_intro ?_ ?_ <;> intro hb))
    exact r_rq_n (k := X.length - (i + 1)) (by omega) ⟨_, _, i + 1, rfl, rfl, by omega, rfl, by omega, (by first | (simp only [Tget_set, Nat.reduceEqDiff, ↓reduceIte, u0] <;> rfl) | rfl), (by first | (simp only [Tget_set, Nat.reduceEqDiff, ↓reduceIte] <;> rfl) | rfl), (by first | (simp only [Tget_set, ↓reduceIte] <;> rfl) | rfl)⟩
  · have hend : i = X.length := by omega
    repeat' (first
    | with_reducible refine r_seq ?_
    | with_reducible refine r_next ?_
    | with_reducible refine r_block ?_
    | with_reducible refine r_seq_exit ?_
    | with_reducible refine r_seq_ret ?_
    | with_reducible refine r_blk_n ?_
    | with_reducible refine r_blk_ret ?_
    | with_reducible refine r_blk_hit ?_
    | with_reducible refine r_blk_miss rfl ?_
    | with_reducible refine r_skip ?_
    | with_reducible refine r_exit ?_
    | with_reducible refine r_ret ?_
    | with_reducible refine r_rq_exit ?_
    | with_reducible refine r_rq_ret ?_
    | ((with_reducible apply r_regA); (focus (simp only [List.append_eq, List.cons_append, List.nil_append] <;> rfl)); (focus (first | exact Nat.le_of_ble_eq_true rfl | (simp only [List.length_cons, List.length_nil]; omega))))
    | ((with_reducible refine r_reg (List.toList_toArray) ?_ ?_); focus (first | exact Nat.le_of_ble_eq_true rfl | (simp only [List.length_cons, List.length_nil]; omega)))
    | ((with_reducible apply r_drawL); (focus kernel_rfl); (focus kernel_rfl); (focus (first | exact Nat.le_of_ble_eq_true rfl | (simp only [List.length_cons, List.length_nil]; omega))))
    | ((with_reducible apply r_end); focus (simp only [Nat.add_assoc, Nat.reduceAdd, Nat.zero_add] <;> rfl))
    | ((with_reducible (first | apply r_move | apply r_assign)); (focus (simp only [Tget_set, Nat.reduceEqDiff, ↓reduceIte, u0, u3, u4] <;> rfl)); (focus (exact Nat.le_of_ble_eq_true rfl)))
    | ((with_reducible apply r_condT); (focus (simp only [Tget_set, ↓reduceIte] <;> rfl)))
    | ((with_reducible (first | apply r_any | apply r_cond)); focus (simp only [↓reduceIte, clsOf, clsCall, Fr.ev, put_mk, pureOp, readOp, pBin, binA, intOp_lss, List.getElem?_cons_zero, Nat.reduceLT, Nat.reduceEqDiff, binA, stepOp, stV_mk, stepAny, wantedA_none, rCall, rLen, Tget_set, lA, lt_f hil] <;> rfl))
    | (with_reducible rw [ifQ_t])
    | (with_reducible rw [ifQ_f])
    | (with_reducible refine ifQ_intro ?_ ?_ <;> intro hb))
    subst hQ
    refine ret_back (by simp only [Tryz.results9, resultOf, resultsA, resultA, List.toList_toArray, Fr.ev, Tget_set, ↓reduceIte] <;> rfl) ?_
    exact ⟨_, by rw [hend, List.take_length, ← hYl, List.take_length], Same.base _ _ _⟩
theorem k_vtable {h h1 : Heap} {F : Nat} {a : AV} {X : List (List AV)} {Y : List (List (List AV))} (hA : RowN h ksR 4 ksV a X Y) (hX : X.length ≤ 1000) (hY : ∀ l ∈ Y, l.length ≤ 2000) (hs : SameH h h1) : CallF.fn (KT S) 9 [a] ⟨h1, F⟩ = some [.val (.str (tabT X Y)) ⟨h1, F⟩] :=
  kt_fn ((rfl : _ = spTb [a] ⟨h1, F⟩).trans (by simp only [spTb, rowsOf_same hA hs])) (vtable h1 F a X Y (hA.same hs) hX hY)
end

end Go.Proofs.YtlbjmpbgnbpcoaaGreatDoor

