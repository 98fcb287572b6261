/- A part of the proof of the law ReplayDiffers. CONDITIONS: those that each theorem names. -/
import Derived.Test.YtfhgiadogeephaaGreatDoorEngineA
import Derived.Test.YtfhgiadogeephaaGreatDoorEngineB
import Derived.Test.YtfhgiadogeephaaGreatDoorEngineC
import Derived.Test.YtfhgiadogeephaaGreatDoorEngineD
import Derived.Test.YtfhgiadogeephaaGreatDoorPartA
import Derived.Test.YtfhgiadogeephaaGreatDoorSTTypes
import Derived.Test.YtfhgiadogeephaaGreatDoorPartB
import Derived.Test.YtfhgiadogeephaaGreatDoorSTLay
import Derived.Test.YtfhgiadogeephaaGreatDoorPartC
import Derived.Test.YtfhgiadogeephaaGreatDoorPartD
import Derived.Test.YtfhgiadogeephaaGreatDoorRDLay
import Derived.Test.YtfhgiadogeephaaGreatDoorPartE
namespace Go.Proofs.YtfhgiadogeephaaGreatDoor
open Go Go.Ai
set_option maxRecDepth 100000
set_option maxHeartbeats 4000000 in
theorem sumA (h : Heap) (F : Nat) (e1 p1 : Int) (sa ra : AV) (A : Tx) (X : List (List AV)) (Y : List (List (List AV))) (he : in64 e1) (hSA : BytP h sa A) (lSA : A.length ≤ 50000) (hRA : RowN h ksR 4 ksV ra X Y) (hX : X.length ≤ 1000) (hC : cntY Y Y.length ≤ 2000000) : Snd Tryz.prog GL 8 [.agg [.int .i64 e1, sa, ra, .int .i64 p1]] ⟨h, F⟩ [.val (.int .u64 (hashI (sumT e1 A X Y))) ⟨h, F⟩] := by
  refine snd_val (by simp [Kin]) fun hw => ?_
  refine sndQ_clean fun h0 hw0 hlow hcl => ?_
  have hS0 := hlow.same hw
  replace hSA := hSA.same hS0
  replace hRA := hRA.same hS0
  have mxl : maxLen = 9223372036854775807 := by decide
  have low1 : Low F h0 (hset h0 (ky F 0) (mkRow [.int .i64 e1, sa, ra, .int .i64 p1] 0)) := (Low.refl F h0).set (Nat.le_refl F)
  have hit := itoa_len he
  have htl := tabT_len hRA X.length (Nat.le_refl _)
  rw [List.take_length, ← hRA.len, List.take_length] at htl
  have hxl : Y.length = X.length := hRA.len
  have cv := rCv_B (P := Tryz.prog) (src := 22) (dst := 9) Tryz.underlying22 Tryz.underlying5 Tryz.underlying9 hSA (low1.same hw0)
  have s1 := strOp_add (a := Lib.itoa e1) (b := [10]) (by simp only [List.length_cons, List.length_nil]; omega)
  have s2 := strOp_add (a := Lib.itoa e1 ++ [10]) (b := A) (by simp only [List.length_append, List.length_cons, List.length_nil]; omega)
  have s3 := strOp_add (a := Lib.itoa e1 ++ [10] ++ A) (b := tabT X Y) (by simp only [List.length_append, List.length_cons, List.length_nil]; omega)
  have hsl : (Lib.itoa e1 ++ [10] ++ A ++ tabT X Y).length ≤ maxLen := by simp only [List.length_append, List.length_cons, List.length_nil]; omega
  refine sndQ_body (K := (KT S0)) kt_ok mixed noNum (m := 0) Tryz.func8 ?_
  generalize hQ : retQ _ _ _ _ _ _ = Q0
  refine body_go (c := Tryz.f8.body.getD .skip) (n := 16) rfl rfl (by simp only [↓reduceIte, T.setList, T.set_e] <;> rfl) ?_
  simp only [Tryz.f8, Option.getD_some]
  repeat' (first | with_reducible (first | refine r_seq ?_ | refine r_next ?_ | refine r_block ?_ | refine r_seq_exit ?_ | refine r_seq_ret ?_ | refine r_blk_n ?_ | refine r_blk_ret ?_ | refine r_blk_hit ?_ | refine r_blk_miss rfl ?_ | refine r_skip ?_ | refine r_exit ?_ | refine r_ret ?_ | refine r_rq_exit ?_ | refine r_rq_ret ?_) | ((with_reducible apply r_regA); (focus (exact sd2)); (focus (exact sd1))) | ((with_reducible refine r_reg (List.toList_toArray) ?_ ?_); focus (exact sd1)) | ((with_reducible apply (r_drawG (js := [(0, 0), (1, 1), (4, 0), (5, 16), (6, 48), (8, 0), (9, 256), (2, 3), (3, 7), (7, 127), (10, 775), (11, 2047), (12, 4095), (13, 8191)]))); (focus kernel_rfl); (focus kernel_rfl); (focus (exact sd1))) | ((with_reducible apply g_end); (focus (simp only [List.length_cons, List.length_nil, Nat.reduceAdd, Nat.zero_add] <;> rfl)); simp only [withH_mk, addAll_nil, ↓reduceIte, withH_mk, Nat.reduceEqDiff, Nat.reduceSub, T.set_n, T.set_e, Nat.reduceDiv, Nat.reduceMod, addAll_nil]) | ((with_reducible apply g_undef); (focus rfl); (focus (simp only [↓reduceIte, Nat.reduceEqDiff, Nat.reduceSub, T.set_n, T.set_e, Nat.reduceDiv, Nat.reduceMod, wantedA_none] <;> rfl)); (focus (exact sd6))) | ((with_reducible apply g_pure); (focus rfl); (focus rfl); (focus rfl); (focus (simp only [↓reduceIte, Fr.ev, ofV, ofA, ofS, pureOp, pFA, pFA1, pFA2, pBin, binA, List.getElem?_cons_zero, List.getElem?_cons_succ, Nat.zero_add, Nat.add_zero, Nat.reduceEqDiff, Nat.reduceSub, Nat.add_eq, binA, T.get_n, T.set_n, T.set_e, Nat.reduceDiv, Nat.reduceMod, sz2, sz22, sz23, Tryz.underlying25, s1, s2, s3] <;> rfl)); (focus (exact sd6))) | ((with_reducible apply g_read); (focus rfl); (focus rfl); (focus rfl); (focus (simp only [↓reduceIte, Fr.ev, readOp, rLd, rdAB_row, oneCell_one, hget_same, List.length_cons, List.length_nil, List.drop_zero, List.drop_succ_cons, List.take_succ_cons, List.take_zero, Nat.zero_add, Nat.reduceAdd, Nat.reduceLeDiff, Nat.reduceEqDiff, Nat.reduceSub, loadA_w, loadW_s, T.get_n, T.set_n, T.set_e, Nat.reduceDiv, Nat.reduceMod, sz2, ag2, sz22, ag22, sz23, ag23, addMade_nil, cv] <;> rfl)); (focus (exact sd6))) | ((with_reducible apply g_act); (focus rfl); (focus rfl); (focus rfl); (focus rfl); (focus (simp only [heavy, ↓reduceIte, Fr.ev, evs, withH_mk, Nat.reduceEqDiff, Nat.reduceSub, callTo_s, heavyCall, target, List.nil_append, List.append_nil, T.get_n, T.set_n, T.set_e, Nat.reduceDiv, Nat.reduceMod, addMade_nil, k_pdigits he, k_ptable hRA hX hC, k_hashA hsl, sameS hw0, sameT] <;> rfl)); (focus (exact sd6)); (focus (simp only [↓reduceIte, Fr.ev, readOp, rLd, rdAB_row, oneCell_one, hget_same, List.length_cons, List.length_nil, List.drop_zero, List.drop_succ_cons, List.take_succ_cons, List.take_zero, Nat.zero_add, Nat.reduceAdd, Nat.reduceLeDiff, Nat.reduceEqDiff, Nat.reduceSub, loadA_w, loadW_s, decide_true, decide_false, T.get_n, T.set_n, T.set_e, Nat.reduceDiv, Nat.reduceMod, sz22, ag22, sz23, ag23, Nat.testBit_eq_decide_div_mod_eq, Nat.reducePow, addMade_nil, readsLeft_nil, readsLeft_cons, rdl1_t, rdl1_f, readsOk_nil, readsOk_cons, rok1_s, av_str, Bool.and_self, cv, av_self_B hSA, av_self_L hRA.1] <;> rfl)); (focus (simp only [addMade_nil, asideOk_nil] <;> rfl))) | ((with_reducible apply r_drawL); (focus kernel_rfl); (focus kernel_rfl); (focus (exact sd1))) | ((with_reducible apply r_end); focus (exact sd4)) | ((with_reducible (first | apply r_move | apply r_assign)); (focus (exact sd3)); (focus (exact sd7))) | ((with_reducible apply r_condT); (focus (exact sd3))) | ((with_reducible (first | apply r_any | apply r_cond)); focus (simp only [↓reduceIte, clsOf, newBlk, allocOp, Fr.ev, ofV, ofA, ofS, nVar, AV.cells, rowOf_mk, put_mk, upd_mk, keyOf_mk, pureOp, Nat.add_zero, Nat.reduceLT, Nat.reduceEqDiff, Nat.reduceSub, stepOp, stV_mk, stB_mk, T.get_n, T.set_n, T.set_e, Nat.reduceDiv, Nat.reduceMod, stepAny, wantedA_none] <;> rfl)) | (with_reducible rw [ifQ_t]) | (with_reducible rw [ifQ_f]) | (with_reducible refine ifQ_intro ?_ ?_ <;> intro hb))
  subst hQ
  refine ret_back (by simp only [Tryz.results8, resultOf, resultsA, resultA, List.toList_toArray, Fr.ev, T.get_n, Nat.reduceDiv, Nat.reduceMod, Nat.reduceSub, Nat.reduceEqDiff, ↓reduceIte] <;> rfl) ?_
  exact ⟨_, rfl, SameH.trans hS0 (low1.same hw0)⟩
section
variable {S : FuncId → List AV → St → Out → Prop}
theorem k_sumA {h h1 : Heap} {F : Nat} {e1 p1 : Int} {sa ra : AV} {A : Tx} {X : List (List AV)} {Y : List (List (List AV))} (he : in64 e1) (hSA : BytP h sa A) (lSA : A.length ≤ 50000) (hRA : RowN h ksR 4 ksV ra X Y) (hX : X.length ≤ 1000) (hC : cntY Y Y.length ≤ 2000000) (hs : SameH h h1) : CallF.fn (KT S) 8 [.agg [.int .i64 e1, sa, ra, .int .i64 p1]] ⟨h1, F⟩ = some [.val (.int .u64 (hashI (sumT e1 A X Y))) ⟨h1, F⟩] :=
  kt_fn ((rfl : _ = spSu [.agg [.int .i64 e1, sa, ra, .int .i64 p1]] ⟨h1, F⟩).trans (by simp only [spSu, bytO_same hSA hs, rowsOf_same hRA hs])) (sumA h1 F e1 p1 sa ra A X Y he (hSA.same hs) lSA (hRA.same hs) hX hC)
end
set_option maxHeartbeats 4000000 in
theorem sumB (h : Heap) (F : Nat) (e1 p1 : Int) (sa ra : AV) (A : Tx) (X : List (List AV)) (Y : List (List (List AV))) (he : in64 e1) (hSA : BytP h sa A) (lSA : A.length ≤ 50000) (hRA : RowN h ksR 4 ksV ra X Y) (hX : X.length ≤ 1000) (hC : cntY Y Y.length ≤ 2000000) : Snd Tryz.prog GL 9 [.agg [.int .i64 e1, sa, ra, .int .i64 p1]] ⟨h, F⟩ [.val (.int .u64 (hashI (sumT e1 A X Y))) ⟨h, F⟩] := by
  refine snd_val (by simp [Kin]) fun hw => ?_
  refine sndQ_clean fun h0 hw0 hlow hcl => ?_
  have hS0 := hlow.same hw
  replace hSA := hSA.same hS0
  replace hRA := hRA.same hS0
  have mxl : maxLen = 9223372036854775807 := by decide
  have low1 : Low F h0 (hset h0 (ky F 0) (mkRow [.int .i64 e1, sa, ra, .int .i64 p1] 0)) := (Low.refl F h0).set (Nat.le_refl F)
  have hit := itoa_len he
  have htl := tabT_len hRA X.length (Nat.le_refl _)
  rw [List.take_length, ← hRA.len, List.take_length] at htl
  have hxl : Y.length = X.length := hRA.len
  have cv := rCv_B (P := Tryz.prog) (src := 22) (dst := 9) Tryz.underlying22 Tryz.underlying5 Tryz.underlying9 hSA (low1.same hw0)
  have s1 := strOp_add (a := Lib.itoa e1) (b := [10]) (by simp only [List.length_cons, List.length_nil]; omega)
  have s2 := strOp_add (a := Lib.itoa e1 ++ [10]) (b := A) (by simp only [List.length_append, List.length_cons, List.length_nil]; omega)
  have s3 := strOp_add (a := Lib.itoa e1 ++ [10] ++ A) (b := tabT X Y) (by simp only [List.length_append, List.length_cons, List.length_nil]; omega)
  have hsl : (Lib.itoa e1 ++ [10] ++ A ++ tabT X Y).length ≤ maxLen := by simp only [List.length_append, List.length_cons, List.length_nil]; omega
  refine sndQ_body (K := (KT S0)) kt_ok mixed noNum (m := 0) Tryz.func9 ?_
  generalize hQ : retQ _ _ _ _ _ _ = Q0
  refine body_go (c := Tryz.f9.body.getD .skip) (n := 16) rfl rfl (by simp only [↓reduceIte, T.setList, T.set_e] <;> rfl) ?_
  simp only [Tryz.f9, Option.getD_some]
  repeat' (first | with_reducible (first | refine r_seq ?_ | refine r_next ?_ | refine r_block ?_ | refine r_seq_exit ?_ | refine r_seq_ret ?_ | refine r_blk_n ?_ | refine r_blk_ret ?_ | refine r_blk_hit ?_ | refine r_blk_miss rfl ?_ | refine r_skip ?_ | refine r_exit ?_ | refine r_ret ?_ | refine r_rq_exit ?_ | refine r_rq_ret ?_) | ((with_reducible apply r_regA); (focus (exact sd2)); (focus (exact sd1))) | ((with_reducible refine r_reg (List.toList_toArray) ?_ ?_); focus (exact sd1)) | ((with_reducible apply (r_drawG (js := [(0, 0), (1, 1), (4, 0), (5, 16), (6, 48), (8, 0), (9, 256), (2, 3), (3, 7), (7, 127), (10, 775), (11, 2047), (12, 4095), (13, 8191)]))); (focus kernel_rfl); (focus kernel_rfl); (focus (exact sd1))) | ((with_reducible apply g_end); (focus (simp only [List.length_cons, List.length_nil, Nat.reduceAdd, Nat.zero_add] <;> rfl)); simp only [withH_mk, addAll_nil, ↓reduceIte, withH_mk, Nat.reduceEqDiff, Nat.reduceSub, T.set_n, T.set_e, Nat.reduceDiv, Nat.reduceMod, addAll_nil]) | ((with_reducible apply g_undef); (focus rfl); (focus (simp only [↓reduceIte, Nat.reduceEqDiff, Nat.reduceSub, T.set_n, T.set_e, Nat.reduceDiv, Nat.reduceMod, wantedA_none] <;> rfl)); (focus (exact sd6))) | ((with_reducible apply g_pure); (focus rfl); (focus rfl); (focus rfl); (focus (simp only [↓reduceIte, Fr.ev, ofV, ofA, ofS, pureOp, pFA, pFA1, pFA2, pBin, binA, List.getElem?_cons_zero, List.getElem?_cons_succ, Nat.zero_add, Nat.add_zero, Nat.reduceEqDiff, Nat.reduceSub, Nat.add_eq, binA, T.get_n, T.set_n, T.set_e, Nat.reduceDiv, Nat.reduceMod, sz2, sz22, sz23, Tryz.underlying25, s1, s2, s3] <;> rfl)); (focus (exact sd6))) | ((with_reducible apply g_read); (focus rfl); (focus rfl); (focus rfl); (focus (simp only [↓reduceIte, Fr.ev, readOp, rLd, rdAB_row, oneCell_one, hget_same, List.length_cons, List.length_nil, List.drop_zero, List.drop_succ_cons, List.take_succ_cons, List.take_zero, Nat.zero_add, Nat.reduceAdd, Nat.reduceLeDiff, Nat.reduceEqDiff, Nat.reduceSub, loadA_w, loadW_s, T.get_n, T.set_n, T.set_e, Nat.reduceDiv, Nat.reduceMod, sz2, ag2, sz22, ag22, sz23, ag23, addMade_nil, cv] <;> rfl)); (focus (exact sd6))) | ((with_reducible apply g_act); (focus rfl); (focus rfl); (focus rfl); (focus rfl); (focus (simp only [heavy, ↓reduceIte, Fr.ev, evs, withH_mk, Nat.reduceEqDiff, Nat.reduceSub, callTo_s, heavyCall, target, List.nil_append, List.append_nil, T.get_n, T.set_n, T.set_e, Nat.reduceDiv, Nat.reduceMod, addMade_nil, k_vdigits he, k_vtable hRA hX hC, k_hashB hsl, sameS hw0, sameT] <;> rfl)); (focus (exact sd6)); (focus (simp only [↓reduceIte, Fr.ev, readOp, rLd, rdAB_row, oneCell_one, hget_same, List.length_cons, List.length_nil, List.drop_zero, List.drop_succ_cons, List.take_succ_cons, List.take_zero, Nat.zero_add, Nat.reduceAdd, Nat.reduceLeDiff, Nat.reduceEqDiff, Nat.reduceSub, loadA_w, loadW_s, decide_true, decide_false, T.get_n, T.set_n, T.set_e, Nat.reduceDiv, Nat.reduceMod, sz22, ag22, sz23, ag23, Nat.testBit_eq_decide_div_mod_eq, Nat.reducePow, addMade_nil, readsLeft_nil, readsLeft_cons, rdl1_t, rdl1_f, readsOk_nil, readsOk_cons, rok1_s, av_str, Bool.and_self, cv, av_self_B hSA, av_self_L hRA.1] <;> rfl)); (focus (simp only [addMade_nil, asideOk_nil] <;> rfl))) | ((with_reducible apply r_drawL); (focus kernel_rfl); (focus kernel_rfl); (focus (exact sd1))) | ((with_reducible apply r_end); focus (exact sd4)) | ((with_reducible (first | apply r_move | apply r_assign)); (focus (exact sd3)); (focus (exact sd7))) | ((with_reducible apply r_condT); (focus (exact sd3))) | ((with_reducible (first | apply r_any | apply r_cond)); focus (simp only [↓reduceIte, clsOf, newBlk, allocOp, Fr.ev, ofV, ofA, ofS, nVar, AV.cells, rowOf_mk, put_mk, upd_mk, keyOf_mk, pureOp, Nat.add_zero, Nat.reduceLT, Nat.reduceEqDiff, Nat.reduceSub, stepOp, stV_mk, stB_mk, T.get_n, T.set_n, T.set_e, Nat.reduceDiv, Nat.reduceMod, stepAny, wantedA_none] <;> rfl)) | (with_reducible rw [ifQ_t]) | (with_reducible rw [ifQ_f]) | (with_reducible refine ifQ_intro ?_ ?_ <;> intro hb))
  subst hQ
  refine ret_back (by simp only [Tryz.results9, resultOf, resultsA, resultA, List.toList_toArray, Fr.ev, T.get_n, Nat.reduceDiv, Nat.reduceMod, Nat.reduceSub, Nat.reduceEqDiff, ↓reduceIte] <;> rfl) ?_
  exact ⟨_, rfl, SameH.trans hS0 (low1.same hw0)⟩
section
variable {S : FuncId → List AV → St → Out → Prop}
theorem k_sumB {h h1 : Heap} {F : Nat} {e1 p1 : Int} {sa ra : AV} {A : Tx} {X : List (List AV)} {Y : List (List (List AV))} (he : in64 e1) (hSA : BytP h sa A) (lSA : A.length ≤ 50000) (hRA : RowN h ksR 4 ksV ra X Y) (hX : X.length ≤ 1000) (hC : cntY Y Y.length ≤ 2000000) (hs : SameH h h1) : CallF.fn (KT S) 9 [.agg [.int .i64 e1, sa, ra, .int .i64 p1]] ⟨h1, F⟩ = some [.val (.int .u64 (hashI (sumT e1 A X Y))) ⟨h1, F⟩] :=
  kt_fn ((rfl : _ = spSu [.agg [.int .i64 e1, sa, ra, .int .i64 p1]] ⟨h1, F⟩).trans (by simp only [spSu, bytO_same hSA hs, rowsOf_same hRA hs])) (sumB h1 F e1 p1 sa ra A X Y he (hSA.same hs) lSA (hRA.same hs) hX hC)
end

end Go.Proofs.YtfhgiadogeephaaGreatDoor

