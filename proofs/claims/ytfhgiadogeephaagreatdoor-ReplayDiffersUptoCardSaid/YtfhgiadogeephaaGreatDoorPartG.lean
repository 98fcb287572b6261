/- A part of the proof of the law ReplayDiffers. CONDITIONS: those that each theorem names. -/
import Derived.Lib.LaidTab
import Derived.Test.YtfhgiadogeephaaGreatDoorEngineA
import Derived.Test.YtfhgiadogeephaaGreatDoorEngineB
import Derived.Test.YtfhgiadogeephaaGreatDoorEngineC
import Derived.Test.YtfhgiadogeephaaGreatDoorEngineD
import Derived.Test.YtfhgiadogeephaaGreatDoorPartA
import Derived.Test.YtfhgiadogeephaaGreatDoorSTTypes
import Derived.Test.YtfhgiadogeephaaGreatDoorPartB
import Derived.Test.YtfhgiadogeephaaGreatDoorSTLay
import Derived.Test.YtfhgiadogeephaaGreatDoorPartC
import Derived.Test.YtfhgiadogeephaaGreatDoorPartD
import Derived.Test.YtfhgiadogeephaaGreatDoorRDLay
import Derived.Test.YtfhgiadogeephaaGreatDoorPartE
import Derived.Test.YtfhgiadogeephaaGreatDoorPartF
import Derived.Test.YtfhgiadogeephaaGreatDoorSTLive
/-! A loop and what holds behind it: the rest is walked once. -/
namespace Go.Ai
open Go
variable {P : Program} {G : Glob} {K : CallF} {m : Nat} {Q : Ex → Fr → St → Prop}
def exitQ (j : Nat) (R : Fr → St → Prop) : Ex → Fr → St → Prop
  | .exit i, fr, s => i = j ∧ R fr s
  | _, _, _ => False
theorem exit_at {j : Nat} {R : Fr → St → Prop} {fr : Fr} {s : St} (h : R fr s) : exitQ j R (.exit j) fr s := ⟨rfl, h⟩
theorem r_loopE {I : Nat → Fr → St → Prop} {R : Fr → St → Prop} {n j : Nat} {b : Code} {fr : Fr} {s : St} (hn : n < m) (hi : I n fr s) (h : ∀ n fr s, I n fr s → WR (code P G K m b fr s) (roundQ I n (exitQ j R))) (hx : ∀ fr s, R fr s → Q (.exit j) fr s) : WR (code P G K m (.loop b) fr s) Q := by
  refine WR.mono (r_loop hn hi h) ?_
  intro e fr s he
  cases e with
  | exit i => obtain ⟨rfl, hr⟩ := he; exact hx fr s hr
  | normal => exact he.elim
  | ret => exact he.elim
  | pan v => exact he.elim
end Go.Ai

namespace Go.Proofs.YtfhgiadogeephaaGreatDoor
open Go Go.Ai
set_option maxRecDepth 100000

theorem k_live {S : FuncId → List AV → St → Out → Prop} {h : Heap} {F : Nat} : CallF.fn (KT S) 5 [] ⟨h, F⟩ = some [.val (.bool true) ⟨h, F⟩] := by
  obtain ⟨_, hb⟩ := body5
  exact kt_fn rfl (snd_glob (snd_true x2_ok mixed noNum run5 Tryz.func5 hb ⟨h, F⟩))
theorem egS : Tryz.prog.eqGuardType Tryz.prog.depth 31 = false := by kernel_rfl
theorem siS : Tryz.prog.stoodInHeld 31 = false := by kernel_rfl
theorem eqS (k q l : Int) : eqIn Tryz.prog 100 31 (.agg [.int .i64 k, .int .i64 q, .int .i64 l]) (.agg [.int .i64 k, .int .i64 q, .int .i64 l]) = some true := by
  show eqIn Tryz.prog (98 + 2) _ _ _ = _
  rw [eq_struct Tryz.underlying31 siS]
  simp only [eqFs, partA, ag3, ag2, List.getElem?_cons_zero, List.getElem?_cons_succ, eq_int Tryz.underlying3, eq_int Tryz.underlying2, beq_self_eq_true]
  rfl
set_option maxHeartbeats 16000000 in
theorem law3 (h : Heap) (F : Nat) (e1 e2 p1 p2 : Int) (sa sb ra rb : AV) (A B : Tx) (X X2 : List (List AV)) (Y Y2 : List (List (List AV))) (i1 : in64 e1) (i2 : in64 e2) (hSA : BytP h sa A) (hSB : BytP h sb B) (rSA : RoomA sa) (rSB : RoomA sb) (bSA : A.length ≤ 2000000) (bSB : B.length ≤ 2000000) (hRA : RowN h ksR 4 ksV ra X Y) (hRB : RowN h ksR 4 ksV rb X2 Y2) (rRA : RoomA ra) (rRB : RoomA rb) (cA : cntY Y Y.length ≤ 2000000) (cB : cntY Y2 Y2.length ≤ 2000000) (bX : X.length ≤ 2000000) (bX2 : X2.length ≤ 2000000) :
    SndQ Tryz.prog GL 3 [.agg [.int .i64 e1, sa, ra, .int .i64 p1], .agg [.int .i64 e2, sb, rb, .int .i64 p2]] ⟨h, F⟩ (fun o => ∃ s', o = .val (.bool true) s') := by
  have mxl : maxLen = 9223372036854775807 := by decide
  refine sndQ_wf fun hw => ?_
  have lA := fun (h2 : Heap) => rLen1_L (h2 := h2) Tryz.underlying23 hRA.1
  have lB := fun (h2 : Heap) => rLen1_L (h2 := h2) Tryz.underlying23 hRB.1
  have kA := fun (h2 : Heap) => rLen1_B (h2 := h2) (P := Tryz.prog) (ty := 22) Tryz.underlying22 hSA
  have kB := fun (h2 : Heap) => rLen1_B (h2 := h2) (P := Tryz.prog) (ty := 22) Tryz.underlying22 hSB
  have hlA := hRA.1.len
  have hlB := hRB.1.len
  have ad0 : intOp Tryz.prog .add 3 .i64 .i64 (A.length : Int) (B.length : Int) = some (.int .i64 ((A.length + B.length : Nat) : Int)) := intOp_add (by unfold inR; omega)
  have adX : intOp Tryz.prog .add 3 .i64 .i64 (X.length : Int) (X2.length : Int) = some (.int .i64 ((X.length + X2.length : Nat) : Int)) := intOp_add (by unfold inR; omega)
  refine sndQ_body (K := (KT S0)) kt_ok mixed noNum (m := 501) Tryz.func3 ?_
  generalize hQ : retQ _ _ _ _ _ _ = Q0
  refine body_go (c := Tryz.f3.body.getD .skip) (n := 145) rfl rfl (by simp only [↓reduceIte, T.setList, T.set_e, T.set_n, Nat.reduceDiv, Nat.reduceMod, Nat.reduceEqDiff, Nat.zero_add] <;> rfl) ?_
  simp only [Tryz.f3, Option.getD_some]
  repeat' (first | with_reducible (first | refine r_seq ?_ | refine r_next ?_ | refine r_block ?_ | refine r_seq_exit ?_ | refine r_seq_ret ?_ | refine r_blk_n ?_ | refine r_blk_ret ?_ | refine r_blk_hit ?_ | refine r_blk_miss rfl ?_ | refine r_skip ?_ | refine r_exit ?_ | refine r_ret ?_ | refine r_rq_exit ?_ | refine r_rq_ret ?_) | ((with_reducible apply r_regA); (focus (exact sd2)); (focus (exact sd1))) | ((with_reducible refine r_reg (List.toList_toArray) ?_ ?_); focus (exact sd1)) | ((with_reducible apply r_drawL); (focus kernel_rfl); (focus kernel_rfl); (focus (exact sd1))) | ((with_reducible apply r_end); focus (exact sd4)) | ((with_reducible (first | apply r_move | apply r_assign)); (focus (exact sd3)); (focus (exact sd7))) | ((with_reducible apply r_condT); (focus (exact sd3))) | ((with_reducible apply r_gT); (focus (exact sd5)); (focus rfl); (focus (exact sd3))) | ((with_reducible (first | apply r_any | apply r_cond)); focus (simp only [↓reduceIte, clsOf, clsCall, newBlk, allocOp, Fr.ev, ofV, ofA, ofS, nVar, AV.cells, rowOf_mk, put_mk, upd_mk, keyOf_mk, ky_inj, pureOp, readOp, pFA, pFA1, pFA2, rLd, rdAB_row, oneCell_one, hget_same, hget_hset_ite, pBin, binA, List.length_cons, List.length_nil, List.getElem?_cons_zero, List.getElem?_cons_succ, List.drop_zero, List.drop_succ_cons, List.take_succ_cons, List.take_zero, Nat.zero_add, Nat.add_zero, Nat.reduceAdd, Nat.reduceLT, Nat.reduceLeDiff, Nat.reduceEqDiff, Nat.reduceSub, Nat.add_eq, loadA_w, loadW_s, binA, stepOp, stV_mk, stB_mk, T.get_n, T.set_n, T.set_e, Nat.reduceDiv, Nat.reduceMod, sz22, ag22, Tryz.underlying25, stepAny, wantedA_none, rCall, rLen, kA, kB, ad0] <;> rfl)) | (with_reducible rw [ifQ_t]) | (with_reducible rw [ifQ_f]) | (with_reducible refine ifQ_intro ?_ ?_ <;> intro hb))
  refine r_loopE (j := 0) (R := fun fr s1 => ∃ lc tt N, fr = ⟨F, lc, 145, tt, [], .no⟩ ∧ s1 = ⟨(hset (hset h (ky F 0) (mkRow [.int .i64 e1, sa, ra, .int .i64 p1] 0)) (ky F 1) (mkRow [.int .i64 e2, sb, rb, .int .i64 p2] 0)), F + 1⟩ ∧ lc ≤ 100000000000000000000001000 ∧ A.length + B.length ≤ N ∧ N ≤ 2000000000 ∧ tt.get 2 = some (.ptr (ky F 0) 0) ∧ tt.get 3 = some (.ptr (ky F 1) 0) ∧ tt.get 5 = some (.int .i64 (N : Int))) (I := fun nn fr s1 => ∃ lc tt i N, fr = ⟨F, lc, 145, tt, [], .no⟩ ∧ s1 = ⟨(hset (hset h (ky F 0) (mkRow [.int .i64 e1, sa, ra, .int .i64 p1] 0)) (ky F 1) (mkRow [.int .i64 e2, sb, rb, .int .i64 p2] 0)), F + 1⟩ ∧ i ≤ X.length ∧ i ≤ 500 ∧ nn = 500 - i ∧ lc + nn * 1000 ≤ 100000000000000000000000000 ∧ A.length + B.length ≤ N ∧ N ≤ 4000000 + i * 2000001 ∧ tt.get 2 = some (.ptr (ky F 0) 0) ∧ tt.get 3 = some (.ptr (ky F 1) 0) ∧ tt.get 5 = some (.int .i64 (N : Int)) ∧ tt.get 6 = some (.int .i64 (i : Int))) (n := 500) ?_ ?_ ?_ ?_
  · omega
  · exact ⟨_, _, 0, A.length + B.length, rfl, rfl, Nat.zero_le _, Nat.zero_le _, rfl, by omega, by omega, by omega, (by first | (simp only [T.get_n, Nat.reduceEqDiff, Nat.reduceDiv, Nat.reduceMod, Nat.reduceSub, ↓reduceIte] <;> rfl) | rfl), (by first | (simp only [T.get_n, Nat.reduceEqDiff, Nat.reduceDiv, Nat.reduceMod, ↓reduceIte] <;> rfl) | rfl), (by first | (simp only [T.get_n, Nat.reduceEqDiff, Nat.reduceDiv, Nat.reduceMod, Nat.reduceSub, ↓reduceIte] <;> rfl) | rfl), (by first | (simp only [T.get_n, Nat.reduceEqDiff, Nat.reduceDiv, Nat.reduceMod, Nat.reduceSub, ↓reduceIte] <;> rfl) | rfl)⟩
  · rintro nn fr s1 ⟨lc, tt, i, N, rfl, rfl, hi, hi5, rfl, hlc, hN1, hN2, u2, u3, u5, u6⟩
    by_cases hil : i < X.length
    · by_cases h5 : i < 500
      · obtain ⟨b1, o1, eo1, cap1, q, k, c, p, v, l, rfl, hb1, hx1, hy1, _, _, _, _, hl1, _, r1⟩ := res_at hw hRA (SameH.refl h) hil
        have hll := cntY_mem (List.mem_of_getElem? hy1)
        have lV := fun (h2 : Heap) => rLen1_L (h2 := h2) Tryz.underlying26 hl1
        have ad1 : intOp Tryz.prog .add 3 .i64 .i64 (N : Int) 1 = some (.int .i64 ((N + 1 : Nat) : Int)) := intOp_add (by unfold inR; omega)
        have ad2 : intOp Tryz.prog .add 3 .i64 .i64 ((N + 1 : Nat) : Int) (l.length : Int) = some (.int .i64 ((N + 1 + l.length : Nat) : Int)) := intOp_add (by unfold inR; omega)
        repeat' (first | with_reducible (first | refine r_seq ?_ | refine r_next ?_ | refine r_block ?_ | refine r_seq_exit ?_ | refine r_seq_ret ?_ | refine r_blk_n ?_ | refine r_blk_ret ?_ | refine r_blk_hit ?_ | refine r_blk_miss rfl ?_ | refine r_skip ?_ | refine r_exit ?_ | refine r_ret ?_ | refine r_rq_exit ?_ | refine r_rq_ret ?_) | ((with_reducible apply r_regA); (focus (exact sd2)); (focus (exact sd1))) | ((with_reducible refine r_reg (List.toList_toArray) ?_ ?_); focus (exact sd1)) | ((with_reducible apply r_drawL); (focus kernel_rfl); (focus kernel_rfl); (focus (exact sd1))) | ((with_reducible apply r_end); focus (exact sd4)) | ((with_reducible (first | apply r_move | apply r_assign)); (focus (simp only [Tget_set, Nat.reduceEqDiff, ↓reduceIte, u5, u6] <;> rfl)); (focus (exact sd7))) | ((with_reducible apply r_condT); (focus (exact sd3))) | ((with_reducible apply r_gT); (focus (exact sd5)); (focus rfl); (focus (exact sd3))) | ((with_reducible (first | apply r_any | apply r_cond)); focus (simp only [↓reduceIte, clsOf, clsCall, Fr.ev, ofV, ofA, ofS, put_mk, ky_inj, pureOp, readOp, pFA, pFA1, pFA2, rLd, rdAB_row, oneCell_one, hget_same, hget_hset_ite, pBin, binA, intOp_lss, pPick, List.length_cons, List.length_nil, List.getElem?_cons_zero, List.getElem?_cons_succ, List.drop_zero, List.drop_succ_cons, List.take_succ_cons, List.take_zero, Nat.zero_add, Nat.reduceAdd, Nat.reduceLT, Nat.reduceLeDiff, Nat.reduceEqDiff, Nat.add_eq, loadA_w, loadW_s, binA, stepOp, stV_mk, sz23, ag23, Tryz.underlying25, sz26, ag26, Tryz.underlying28, stepAny, wantedA_none, rCall, rLen, Tget_set, u2, lA, lt_t hil, ls_t (show (i : Int) < 500 by omega), pIA_s Tryz.underlying23 sz28 hil, r1, ky_old hb1, lV, ad1, ad2, intOp_add (show inR ((i : Int) + 1) by unfold inR; omega)] <;> rfl)) | (with_reducible rw [ifQ_t]) | (with_reducible rw [ifQ_f]) | (with_reducible refine ifQ_intro ?_ ?_ <;> intro hb))
        exact r_rq_n (k := 500 - (i + 1)) (by omega) ⟨_, _, i + 1, N + 1 + l.length, rfl, rfl, by omega, by omega, rfl, by omega, by omega, by omega, (by first | (simp only [Tget_set, Nat.reduceEqDiff, ↓reduceIte, u2] <;> rfl) | rfl), (by first | (simp only [Tget_set, Nat.reduceEqDiff, ↓reduceIte, u3] <;> rfl) | rfl), (by first | (simp only [Tget_set, Nat.reduceEqDiff, ↓reduceIte] <;> rfl) | rfl), (by first | (simp only [Tget_set, ↓reduceIte] <;> rfl) | rfl)⟩
      · repeat' (first | with_reducible (first | refine r_seq ?_ | refine r_next ?_ | refine r_block ?_ | refine r_seq_exit ?_ | refine r_seq_ret ?_ | refine r_blk_n ?_ | refine r_blk_ret ?_ | refine r_blk_hit ?_ | refine r_blk_miss rfl ?_ | refine r_skip ?_ | refine r_exit ?_ | refine r_ret ?_ | refine r_rq_exit ?_ | refine r_rq_ret ?_) | ((with_reducible apply r_regA); (focus (exact sd2)); (focus (exact sd1))) | ((with_reducible refine r_reg (List.toList_toArray) ?_ ?_); focus (exact sd1)) | ((with_reducible apply r_drawL); (focus kernel_rfl); (focus kernel_rfl); (focus (exact sd1))) | ((with_reducible apply r_end); focus (exact sd4)) | ((with_reducible (first | apply r_move | apply r_assign)); (focus (simp only [Tget_set, Nat.reduceEqDiff, ↓reduceIte, u6] <;> rfl)); (focus (exact sd7))) | ((with_reducible apply r_condT); (focus (exact sd3))) | ((with_reducible apply r_gT); (focus (exact sd5)); (focus rfl); (focus (exact sd3))) | ((with_reducible (first | apply r_any | apply r_cond)); focus (simp only [↓reduceIte, clsOf, clsCall, Fr.ev, ofV, ofA, ofS, put_mk, ky_inj, pureOp, readOp, pFA, pFA1, pFA2, rLd, rdAB_row, oneCell_one, hget_same, hget_hset_ite, pBin, binA, intOp_lss, pPick, List.length_cons, List.length_nil, List.getElem?_cons_zero, List.getElem?_cons_succ, List.drop_zero, List.drop_succ_cons, List.take_succ_cons, List.take_zero, Nat.zero_add, Nat.reduceAdd, Nat.reduceLT, Nat.reduceLeDiff, Nat.reduceEqDiff, Nat.add_eq, loadA_w, loadW_s, binA, stepOp, stV_mk, sz23, ag23, Tryz.underlying25, stepAny, wantedA_none, rCall, rLen, Tget_set, u2, lA, lt_t hil, ls_f (show ¬ (i : Int) < 500 by omega)] <;> rfl)) | (with_reducible rw [ifQ_t]) | (with_reducible rw [ifQ_f]) | (with_reducible refine ifQ_intro ?_ ?_ <;> intro hb))
        exact exit_at ⟨_, _, N, rfl, rfl, by omega, hN1, by omega, (by first | (simp only [Tget_set, Nat.reduceEqDiff, ↓reduceIte, u2] <;> rfl) | rfl), (by first | (simp only [Tget_set, Nat.reduceEqDiff, ↓reduceIte, u3] <;> rfl) | rfl), (by first | (simp only [Tget_set, Nat.reduceEqDiff, ↓reduceIte, u5] <;> rfl) | rfl)⟩
    · repeat' (first | with_reducible (first | refine r_seq ?_ | refine r_next ?_ | refine r_block ?_ | refine r_seq_exit ?_ | refine r_seq_ret ?_ | refine r_blk_n ?_ | refine r_blk_ret ?_ | refine r_blk_hit ?_ | refine r_blk_miss rfl ?_ | refine r_skip ?_ | refine r_exit ?_ | refine r_ret ?_ | refine r_rq_exit ?_ | refine r_rq_ret ?_) | ((with_reducible apply r_regA); (focus (exact sd2)); (focus (exact sd1))) | ((with_reducible refine r_reg (List.toList_toArray) ?_ ?_); focus (exact sd1)) | ((with_reducible apply r_drawL); (focus kernel_rfl); (focus kernel_rfl); (focus (exact sd1))) | ((with_reducible apply r_end); focus (exact sd4)) | ((with_reducible (first | apply r_move | apply r_assign)); (focus (simp only [Tget_set, ↓reduceIte, u6] <;> rfl)); (focus (exact sd7))) | ((with_reducible apply r_condT); (focus (exact sd3))) | ((with_reducible apply r_gT); (focus (exact sd5)); (focus rfl); (focus (exact sd3))) | ((with_reducible (first | apply r_any | apply r_cond)); focus (simp only [↓reduceIte, wantedA_eq, gBool_t, clsOf, clsCall, Fr.ev, ofV, ofA, ofS, put_mk, ky_inj, pureOp, readOp, pFA, pFA1, pFA2, rLd, rdAB_row, oneCell_one, hget_same, hget_hset_ite, pBin, binA, intOp_lss, pPick, List.length_cons, List.length_nil, List.getElem?_cons_zero, List.getElem?_cons_succ, List.drop_zero, List.drop_succ_cons, List.take_succ_cons, List.take_zero, Nat.zero_add, Nat.reduceAdd, Nat.reduceLT, Nat.reduceLeDiff, Nat.reduceEqDiff, Nat.add_eq, loadA_w, loadW_s, binA, stepOp, stV_mk, sz23, ag23, Tryz.underlying25, stepAny, wantedA_none, rCall, rLen, Tget_set, u2, lA, lt_f hil] <;> rfl)) | (with_reducible rw [ifQ_t]) | (with_reducible rw [ifQ_f]) | (with_reducible refine ifQ_intro ?_ ?_ <;> intro hb))
      exact exit_at ⟨_, _, N, rfl, rfl, by omega, hN1, by omega, (by first | (simp only [Tget_set, Nat.reduceEqDiff, ↓reduceIte, u2] <;> rfl) | rfl), (by first | (simp only [Tget_set, Nat.reduceEqDiff, ↓reduceIte, u3] <;> rfl) | rfl), (by first | (simp only [Tget_set, Nat.reduceEqDiff, ↓reduceIte, u5] <;> rfl) | rfl)⟩
  rintro fr s1 ⟨lc, tt, N0, rfl, rfl, hlc, hN1, hN2, u2, u3, u5⟩
  repeat' (first | with_reducible (first | refine r_seq ?_ | refine r_next ?_ | refine r_block ?_ | refine r_seq_exit ?_ | refine r_seq_ret ?_ | refine r_blk_n ?_ | refine r_blk_ret ?_ | refine r_blk_hit ?_ | refine r_blk_miss rfl ?_ | refine r_skip ?_ | refine r_exit ?_ | refine r_ret ?_ | refine r_rq_exit ?_ | refine r_rq_ret ?_) | ((with_reducible apply r_regA); (focus (exact sd2)); (focus (exact sd1))) | ((with_reducible refine r_reg (List.toList_toArray) ?_ ?_); focus (exact sd1)) | ((with_reducible apply r_drawL); (focus kernel_rfl); (focus kernel_rfl); (focus (exact sd1))) | ((with_reducible apply r_end); focus (exact sd4)) | ((with_reducible (first | apply r_move | apply r_assign)); (focus (simp only [Tget_set, T.get_n, T.get_e, Nat.reduceEqDiff, Nat.reduceDiv, Nat.reduceMod, Nat.reduceSub, ↓reduceIte, if_true, if_false, u2, u3, u5] <;> rfl)); (focus (exact sd7))) | ((with_reducible apply r_condT); (focus (simp only [Tget_set, T.get_n, T.get_e, Nat.reduceEqDiff, Nat.reduceDiv, Nat.reduceMod, Nat.reduceSub, ↓reduceIte, if_true, if_false, u2, u3, u5] <;> rfl))) | ((with_reducible apply r_gT); (focus (exact sd5)); (focus rfl); (focus (exact sd3))) | ((with_reducible (first | apply r_any | apply r_cond)); focus (simp only [↓reduceIte, clsOf, Fr.ev, ofV, ofA, ofS, put_mk, pureOp, Nat.reduceLT, stepOp, stV_mk, stepAny, wantedA_none] <;> rfl)) | (with_reducible rw [ifQ_t]) | (with_reducible rw [ifQ_f]) | (with_reducible refine ifQ_intro ?_ ?_ <;> intro hb))
  refine r_loopE (j := 2) (R := fun fr s1 => ∃ lc tt N, fr = ⟨F, lc, 145, tt, [], .no⟩ ∧ s1 = ⟨(hset (hset h (ky F 0) (mkRow [.int .i64 e1, sa, ra, .int .i64 p1] 0)) (ky F 1) (mkRow [.int .i64 e2, sb, rb, .int .i64 p2] 0)), F + 1⟩ ∧ lc ≤ 1000000000000000000000001000 ∧ A.length + B.length ≤ N ∧ N ≤ 4000000000 ∧ tt.get 2 = some (.ptr (ky F 0) 0) ∧ tt.get 3 = some (.ptr (ky F 1) 0) ∧ tt.get 5 = some (.int .i64 (N : Int))) (I := fun nn fr s1 => ∃ lc tt i N, fr = ⟨F, lc, 145, tt, [], .no⟩ ∧ s1 = ⟨(hset (hset h (ky F 0) (mkRow [.int .i64 e1, sa, ra, .int .i64 p1] 0)) (ky F 1) (mkRow [.int .i64 e2, sb, rb, .int .i64 p2] 0)), F + 1⟩ ∧ i ≤ X2.length ∧ i ≤ 500 ∧ nn = 500 - i ∧ lc + nn * 1000 ≤ 1000000000000000000000000000 ∧ A.length + B.length ≤ N ∧ N ≤ 2000000000 + i * 2000001 ∧ tt.get 2 = some (.ptr (ky F 0) 0) ∧ tt.get 3 = some (.ptr (ky F 1) 0) ∧ tt.get 5 = some (.int .i64 (N : Int)) ∧ tt.get 7 = some (.int .i64 (i : Int))) (n := 500) ?_ ?_ ?_ ?_
  · omega
  · exact ⟨_, _, 0, N0, rfl, rfl, Nat.zero_le _, Nat.zero_le _, rfl, by omega, by omega, by omega, (by first | (simp only [Tget_set, Nat.reduceEqDiff, ↓reduceIte, u2] <;> rfl) | rfl), (by first | (simp only [Tget_set, Nat.reduceEqDiff, ↓reduceIte, u3] <;> rfl) | rfl), (by first | (simp only [Tget_set, Nat.reduceEqDiff, ↓reduceIte, u5] <;> rfl) | rfl), (by first | (simp only [Tget_set, ↓reduceIte] <;> rfl) | rfl)⟩
  · rintro nn fr s1 ⟨lc, tt, i, N, rfl, rfl, hi, hi5, rfl, hlc, hN1, hN2, u2, u3, u5, u7⟩
    by_cases hil : i < X2.length
    · by_cases h5 : i < 500
      · obtain ⟨b1, o1, eo1, cap1, q, k, c, p, v, l, rfl, hb1, hx1, hy1, _, _, _, _, hl1, _, r1⟩ := res_at hw hRB (SameH.refl h) hil
        have hll := cntY_mem (List.mem_of_getElem? hy1)
        have lV := fun (h2 : Heap) => rLen1_L (h2 := h2) Tryz.underlying26 hl1
        have ad1 : intOp Tryz.prog .add 3 .i64 .i64 (N : Int) 1 = some (.int .i64 ((N + 1 : Nat) : Int)) := intOp_add (by unfold inR; omega)
        have ad2 : intOp Tryz.prog .add 3 .i64 .i64 ((N + 1 : Nat) : Int) (l.length : Int) = some (.int .i64 ((N + 1 + l.length : Nat) : Int)) := intOp_add (by unfold inR; omega)
        repeat' (first | with_reducible (first | refine r_seq ?_ | refine r_next ?_ | refine r_block ?_ | refine r_seq_exit ?_ | refine r_seq_ret ?_ | refine r_blk_n ?_ | refine r_blk_ret ?_ | refine r_blk_hit ?_ | refine r_blk_miss rfl ?_ | refine r_skip ?_ | refine r_exit ?_ | refine r_ret ?_ | refine r_rq_exit ?_ | refine r_rq_ret ?_) | ((with_reducible apply r_regA); (focus (exact sd2)); (focus (exact sd1))) | ((with_reducible refine r_reg (List.toList_toArray) ?_ ?_); focus (exact sd1)) | ((with_reducible apply r_drawL); (focus kernel_rfl); (focus kernel_rfl); (focus (exact sd1))) | ((with_reducible apply r_end); focus (exact sd4)) | ((with_reducible (first | apply r_move | apply r_assign)); (focus (simp only [Tget_set, Nat.reduceEqDiff, ↓reduceIte, u5, u7] <;> rfl)); (focus (exact sd7))) | ((with_reducible apply r_condT); (focus (exact sd3))) | ((with_reducible apply r_gT); (focus (exact sd5)); (focus rfl); (focus (exact sd3))) | ((with_reducible (first | apply r_any | apply r_cond)); focus (simp only [↓reduceIte, clsOf, clsCall, Fr.ev, ofV, ofA, ofS, put_mk, pureOp, readOp, pFA, pFA1, pFA2, rLd, rdAB_row, oneCell_one, hget_same, hget_hset_ite, pBin, binA, intOp_lss, pPick, List.length_cons, List.length_nil, List.getElem?_cons_zero, List.getElem?_cons_succ, List.drop_zero, List.drop_succ_cons, List.take_succ_cons, List.take_zero, Nat.zero_add, Nat.reduceAdd, Nat.reduceLT, Nat.reduceLeDiff, Nat.reduceEqDiff, Nat.add_eq, loadA_w, loadW_s, binA, stepOp, stV_mk, sz23, ag23, Tryz.underlying25, sz26, ag26, Tryz.underlying28, stepAny, wantedA_none, rCall, rLen, Tget_set, u3, lB, lt_t hil, ls_t (show (i : Int) < 500 by omega), pIA_s Tryz.underlying23 sz28 hil, r1, ky_old hb1, lV, ad1, ad2, intOp_add (show inR ((i : Int) + 1) by unfold inR; omega)] <;> rfl)) | (with_reducible rw [ifQ_t]) | (with_reducible rw [ifQ_f]) | (with_reducible refine ifQ_intro ?_ ?_ <;> intro hb))
        exact r_rq_n (k := 500 - (i + 1)) (by omega) ⟨_, _, i + 1, N + 1 + l.length, rfl, rfl, by omega, by omega, rfl, by omega, by omega, by omega, (by first | (simp only [Tget_set, Nat.reduceEqDiff, ↓reduceIte, u2] <;> rfl) | rfl), (by first | (simp only [Tget_set, Nat.reduceEqDiff, ↓reduceIte, u3] <;> rfl) | rfl), (by first | (simp only [Tget_set, Nat.reduceEqDiff, ↓reduceIte] <;> rfl) | rfl), (by first | (simp only [Tget_set, ↓reduceIte] <;> rfl) | rfl)⟩
      · repeat' (first | with_reducible (first | refine r_seq ?_ | refine r_next ?_ | refine r_block ?_ | refine r_seq_exit ?_ | refine r_seq_ret ?_ | refine r_blk_n ?_ | refine r_blk_ret ?_ | refine r_blk_hit ?_ | refine r_blk_miss rfl ?_ | refine r_skip ?_ | refine r_exit ?_ | refine r_ret ?_ | refine r_rq_exit ?_ | refine r_rq_ret ?_) | ((with_reducible apply r_regA); (focus (exact sd2)); (focus (exact sd1))) | ((with_reducible refine r_reg (List.toList_toArray) ?_ ?_); focus (exact sd1)) | ((with_reducible apply r_drawL); (focus kernel_rfl); (focus kernel_rfl); (focus (exact sd1))) | ((with_reducible apply r_end); focus (exact sd4)) | ((with_reducible (first | apply r_move | apply r_assign)); (focus (simp only [Tget_set, Nat.reduceEqDiff, ↓reduceIte, u7] <;> rfl)); (focus (exact sd7))) | ((with_reducible apply r_condT); (focus (exact sd3))) | ((with_reducible apply r_gT); (focus (exact sd5)); (focus rfl); (focus (exact sd3))) | ((with_reducible (first | apply r_any | apply r_cond)); focus (simp only [↓reduceIte, clsOf, clsCall, Fr.ev, ofV, ofA, ofS, put_mk, pureOp, readOp, pFA, pFA1, pFA2, rLd, rdAB_row, oneCell_one, hget_same, pBin, binA, intOp_lss, pPick, List.length_cons, List.length_nil, List.getElem?_cons_zero, List.getElem?_cons_succ, List.drop_zero, List.drop_succ_cons, List.take_succ_cons, List.take_zero, Nat.zero_add, Nat.reduceAdd, Nat.reduceLT, Nat.reduceLeDiff, Nat.reduceEqDiff, Nat.add_eq, loadA_w, loadW_s, binA, stepOp, stV_mk, sz23, ag23, Tryz.underlying25, stepAny, wantedA_none, rCall, rLen, Tget_set, u3, lB, lt_t hil, ls_f (show ¬ (i : Int) < 500 by omega)] <;> rfl)) | (with_reducible rw [ifQ_t]) | (with_reducible rw [ifQ_f]) | (with_reducible refine ifQ_intro ?_ ?_ <;> intro hb))
        exact exit_at ⟨_, _, N, rfl, rfl, by omega, hN1, by omega, (by first | (simp only [Tget_set, Nat.reduceEqDiff, ↓reduceIte, u2] <;> rfl) | rfl), (by first | (simp only [Tget_set, Nat.reduceEqDiff, ↓reduceIte, u3] <;> rfl) | rfl), (by first | (simp only [Tget_set, Nat.reduceEqDiff, ↓reduceIte, u5] <;> rfl) | rfl)⟩
    · repeat' (first | with_reducible (first | refine r_seq ?_ | refine r_next ?_ | refine r_block ?_ | refine r_seq_exit ?_ | refine r_seq_ret ?_ | refine r_blk_n ?_ | refine r_blk_ret ?_ | refine r_blk_hit ?_ | refine r_blk_miss rfl ?_ | refine r_skip ?_ | refine r_exit ?_ | refine r_ret ?_ | refine r_rq_exit ?_ | refine r_rq_ret ?_) | ((with_reducible apply r_regA); (focus (exact sd2)); (focus (exact sd1))) | ((with_reducible refine r_reg (List.toList_toArray) ?_ ?_); focus (exact sd1)) | ((with_reducible apply r_drawL); (focus kernel_rfl); (focus kernel_rfl); (focus (exact sd1))) | ((with_reducible apply r_end); focus (exact sd4)) | ((with_reducible (first | apply r_move | apply r_assign)); (focus (simp only [Tget_set, ↓reduceIte, u7] <;> rfl)); (focus (exact sd7))) | ((with_reducible apply r_condT); (focus (exact sd3))) | ((with_reducible apply r_gT); (focus (exact sd5)); (focus rfl); (focus (exact sd3))) | ((with_reducible (first | apply r_any | apply r_cond)); focus (simp only [↓reduceIte, wantedA_eq, gBool_t, clsOf, clsCall, Fr.ev, ofV, ofA, ofS, put_mk, pureOp, readOp, pFA, pFA1, pFA2, rLd, rdAB_row, oneCell_one, hget_same, pBin, binA, intOp_lss, pPick, List.length_cons, List.length_nil, List.getElem?_cons_zero, List.getElem?_cons_succ, List.drop_zero, List.drop_succ_cons, List.take_succ_cons, List.take_zero, Nat.zero_add, Nat.reduceAdd, Nat.reduceLT, Nat.reduceLeDiff, Nat.reduceEqDiff, Nat.add_eq, loadA_w, loadW_s, binA, stepOp, stV_mk, sz23, ag23, Tryz.underlying25, stepAny, wantedA_none, rCall, rLen, Tget_set, u3, lB, lt_f hil] <;> rfl)) | (with_reducible rw [ifQ_t]) | (with_reducible rw [ifQ_f]) | (with_reducible refine ifQ_intro ?_ ?_ <;> intro hb))
      exact exit_at ⟨_, _, N, rfl, rfl, by omega, hN1, by omega, (by first | (simp only [Tget_set, Nat.reduceEqDiff, ↓reduceIte, u2] <;> rfl) | rfl), (by first | (simp only [Tget_set, Nat.reduceEqDiff, ↓reduceIte, u3] <;> rfl) | rfl), (by first | (simp only [Tget_set, Nat.reduceEqDiff, ↓reduceIte, u5] <;> rfl) | rfl)⟩
  rintro fr s1 ⟨lc, tt, N, rfl, rfl, hlc, hN1, hN2, u2, u3, u5⟩
  by_cases hbig : (20000 : Int) < (N : Int)
  · repeat' (first | with_reducible (first | refine r_seq ?_ | refine r_next ?_ | refine r_block ?_ | refine r_seq_exit ?_ | refine r_seq_ret ?_ | refine r_blk_n ?_ | refine r_blk_ret ?_ | refine r_blk_hit ?_ | refine r_blk_miss rfl ?_ | refine r_skip ?_ | refine r_exit ?_ | refine r_ret ?_ | refine r_rq_exit ?_ | refine r_rq_ret ?_) | ((with_reducible apply r_regA); (focus (exact sd2)); (focus (exact sd1))) | ((with_reducible refine r_reg (List.toList_toArray) ?_ ?_); focus (exact sd1)) | ((with_reducible apply r_drawL); (focus kernel_rfl); (focus kernel_rfl); (focus (exact sd1))) | ((with_reducible apply r_end); focus (exact sd4)) | ((with_reducible (first | apply r_move | apply r_assign)); (focus (simp only [Tget_set, ↓reduceIte, u5] <;> rfl)); (focus (exact sd7))) | ((with_reducible apply r_condT); (focus (exact sd3))) | ((with_reducible apply r_gT); (focus (exact sd5)); (focus rfl); (focus (exact sd3))) | ((with_reducible (first | apply r_any | apply r_cond)); focus (simp only [↓reduceIte, wantedA_eq, gBool_f, Bool.not_true, clsOf, clsCall, Fr.ev, evs, ofV, ofA, ofS, put_mk, pureOp, pBin, binA, intOp_gtr, pPick, List.getElem?_cons_zero, List.getElem?_cons_succ, Nat.reduceLT, Nat.reduceEqDiff, callTo_s, heavyCall, target, List.append_nil, binA, stepOp, stHeavy, stV_mk, stO_mk, stepAny, wantedA_none, Tget_set, k_live, ls_t hbig] <;> rfl)) | (with_reducible rw [ifQ_t]) | (with_reducible rw [ifQ_f]) | (with_reducible refine ifQ_intro ?_ ?_ <;> intro hb))
    subst hQ
    refine ret_back (by simp only [Tryz.results3, resultOf, resultsA, resultA, List.toList_toArray, Fr.ev, Tget_set, ↓reduceIte] <;> rfl) ?_
    exact ⟨_, rfl⟩
  by_cases hbig2 : (800 : Int) < ((X.length + X2.length : Nat) : Int)
  · repeat' (first | with_reducible (first | refine r_seq ?_ | refine r_next ?_ | refine r_block ?_ | refine r_seq_exit ?_ | refine r_seq_ret ?_ | refine r_blk_n ?_ | refine r_blk_ret ?_ | refine r_blk_hit ?_ | refine r_blk_miss rfl ?_ | refine r_skip ?_ | refine r_exit ?_ | refine r_ret ?_ | refine r_rq_exit ?_ | refine r_rq_ret ?_) | ((with_reducible apply r_regA); (focus (exact sd2)); (focus (exact sd1))) | ((with_reducible refine r_reg (List.toList_toArray) ?_ ?_); focus (exact sd1)) | ((with_reducible apply r_drawL); (focus kernel_rfl); (focus kernel_rfl); (focus (exact sd1))) | ((with_reducible apply r_end); focus (exact sd4)) | ((with_reducible (first | apply r_move | apply r_assign)); (focus (simp only [Tget_set, ↓reduceIte, u5] <;> rfl)); (focus (exact sd7))) | ((with_reducible apply r_condT); (focus (exact sd3))) | ((with_reducible apply r_gT); (focus (exact sd5)); (focus rfl); (focus (exact sd3))) | ((with_reducible (first | apply r_any | apply r_cond)); focus (simp only [↓reduceIte, clsOf, clsCall, Fr.ev, evs, ofV, ofA, ofS, put_mk, ky_inj, pureOp, readOp, pFA, pFA1, pFA2, rLd, rdAB_row, oneCell_one, hget_same, hget_hset_ite, pBin, binA, intOp_gtr, pPick, List.length_cons, List.length_nil, List.getElem?_cons_zero, List.getElem?_cons_succ, List.drop_zero, List.drop_succ_cons, List.take_succ_cons, List.take_zero, Nat.zero_add, Nat.reduceAdd, Nat.reduceLT, Nat.reduceLeDiff, Nat.reduceEqDiff, Nat.add_eq, loadA_w, loadW_s, callTo_s, heavyCall, target, List.append_nil, binA, stepOp, stHeavy, stV_mk, stO_mk, sz23, ag23, Tryz.underlying25, stepAny, wantedA_none, rCall, rLen, Tget_set, u2, u3, lA, lB, k_live, ls_f hbig, adX, ls_t hbig2] <;> rfl)) | (with_reducible rw [ifQ_t]) | (with_reducible rw [ifQ_f]) | (with_reducible refine ifQ_intro ?_ ?_ <;> intro hb))
    subst hQ
    refine ret_back (by simp only [Tryz.results3, resultOf, resultsA, resultA, List.toList_toArray, Fr.ev, Tget_set, ↓reduceIte] <;> rfl) ?_
    exact ⟨_, rfl⟩
  have lSA : A.length ≤ 50000 := by omega
  have lSB : B.length ≤ 50000 := by omega
  have hX : X.length ≤ 1000 := by omega
  have hX2 : X2.length ≤ 1000 := by omega
  have hsy := difV_sym (e1 := e1) (e2 := e2) (A := A) (B := B) (X := X) (X2 := X2) (Y := Y) (Y2 := Y2)
  have hno := fun hk => dif_sum (e1 := e1) (e2 := e2) (A := A) (B := B) hRA.1.1 hRB.1.1 hRA.len hRB.len hk
  have fA1 := fun (h1 : Heap) (hs : SameH h h1) => k_differA (S := S0) (F := F + 1) (e1 := e1) (e2 := e2) (p1 := p1) (p2 := p2) hSA hSB rSA rSB lSA lSB hRA hRB rRA rRB hs
  have fB1 := fun (h1 : Heap) (hs : SameH h h1) => k_differB (S := S0) (F := F + 1) (e1 := e1) (e2 := e2) (p1 := p1) (p2 := p2) hSA hSB rSA rSB lSA lSB hRA hRB rRA rRB hs
  have fA2 := fun (h1 : Heap) (hs : SameH h h1) => k_differA (S := S0) (F := F + 1) (e1 := e2) (e2 := e1) (p1 := p2) (p2 := p1) hSB hSA rSB rSA lSB lSA hRB hRA rRB rRA hs
  have fB2 := fun (h1 : Heap) (hs : SameH h h1) => k_differB (S := S0) (F := F + 1) (e1 := e2) (e2 := e1) (p1 := p2) (p2 := p1) hSB hSA rSB rSA lSB lSA hRB hRA rRB rRA hs
  have gA1 := fun (h1 : Heap) (hs : SameH h h1) => k_sumA (S := S0) (F := F + 1) (p1 := p1) i1 hSA lSA hRA hX cA hs
  have gB1 := fun (h1 : Heap) (hs : SameH h h1) => k_sumB (S := S0) (F := F + 1) (p1 := p1) i1 hSA lSA hRA hX cA hs
  have gA2 := fun (h1 : Heap) (hs : SameH h h1) => k_sumA (S := S0) (F := F + 1) (p1 := p2) i2 hSB lSB hRB hX2 cB hs
  cases hd1 : difV e1 e2 A B X X2 Y Y2 with
  | mk k1 q1 l1 ok1 =>
    cases hd2 : difV e2 e1 B A X2 X Y2 Y with
    | mk k2 q2 l2 ok2 =>
      rw [hd1, hd2] at hsy
      rw [hd1] at hno
      obtain ⟨hk, ho⟩ := hsy
      dsimp only at hk ho hno
      subst hk ho
      simp only [hd1, hd2, difA] at fA1 fB1 fA2 fB2
      obtain ⟨z1, hz1⟩ : ∃ z, z = hashI (sumT e1 A X Y) := ⟨_, rfl⟩
      obtain ⟨z2, hz2⟩ : ∃ z, z = hashI (sumT e2 B X2 Y2) := ⟨_, rfl⟩
      simp only [← hz1] at gA1 gB1
      simp only [← hz2] at gA2
      have n0 : (k2 != k2) = false := by simp
      have n1 : (z1 != z1) = false := by simp
      cases ok2 with
      | true =>
        repeat' (first | with_reducible (first | refine r_seq ?_ | refine r_next ?_ | refine r_block ?_ | refine r_seq_exit ?_ | refine r_seq_ret ?_ | refine r_blk_n ?_ | refine r_blk_ret ?_ | refine r_blk_hit ?_ | refine r_blk_miss rfl ?_ | refine r_skip ?_ | refine r_exit ?_ | refine r_ret ?_ | refine r_rq_exit ?_ | refine r_rq_ret ?_) | ((with_reducible apply r_regA); (focus (exact sd2)); (focus (exact sd1))) | ((with_reducible refine r_reg (List.toList_toArray) ?_ ?_); focus (exact sd1)) | ((with_reducible apply (r_drawW (id := 16) (js := [0, 1, 2, 3, 4, 5, 6, 7, 8, 9, 10, 11, 12, 13, 14, 15, 16, 17, 18, 19, 21, 20, 22, 23, 24, 25, 26, 27, 28, 29, 30, 31]))); (focus kernel_rfl); (focus kernel_rfl); (focus (exact sd1))) | ((with_reducible apply d_end); (focus (simp only [List.length_cons, List.length_nil, Nat.add_assoc, Nat.reduceAdd, Nat.zero_add] <;> rfl))) | ((with_reducible apply d_any); (focus rfl); (iterate 2 (focus (simp only [↓reduceIte, wantedA_eq, gBool_t, gBool_f, Bool.not_true, Bool.not_false, clsOf, clsCall, Fr.ev, evs, ofV, ofA, ofS, put_mk, ky_inj, pureOp, readOp, pFA, pFA1, pFA2, rLd, rdAB_row, oneCell_one, someAgg_s, hget_same, hget_hset_ite, pBin, binA, intOp_neq, pPick, List.length_cons, List.length_nil, List.getElem?_cons_zero, List.getElem?_cons_succ, List.drop_zero, List.take_succ_cons, List.take_zero, Nat.zero_add, Nat.add_zero, Nat.reduceAdd, Nat.reduceLT, Nat.reduceLeDiff, Nat.reduceEqDiff, Nat.add_eq, loadA_w, loadW_a, loadW_s, callTo_s, heavyCall, target, List.nil_append, List.append_nil, binA, eqIn, eqGuardOk, beq_self_eq_true, bne_self_eq_false, Bool.and_true, stepOp, stHeavy, stV_mk, stO_mk, sz3, ag3, Tryz.underlying4, sz25, ag25, sz31, ag31, Tryz.underlying31, stepAny, wantedA_none, readSelf, av_int, av_agg, avs_nil, avs_cons, Tget_set, Nat.left_eq_add, u2, gA1, gB1, ↓eqS, egS, intOp_neq, k_live, sameS hw, sameT, av_self_B hSA, av_self_L hRA.1] <;> rfl))); (focus (first | exact SameH.refl _ | (simp only [sameT, sameS hw]; done)))) | ((with_reducible apply (r_drawW (id := 18) (js := [0, 1, 2, 4, 3, 5, 6, 7, 8, 9, 10, 11]))); (focus kernel_rfl); (focus kernel_rfl); (focus (exact sd1))) | ((with_reducible apply d_end); (focus (simp only [List.length_cons, List.length_nil, Nat.add_assoc, Nat.reduceAdd, Nat.zero_add] <;> rfl))) | ((with_reducible apply r_drawL); (focus kernel_rfl); (focus kernel_rfl); (focus (exact sd1))) | ((with_reducible apply r_end); focus (exact sd4)) | ((with_reducible (first | apply r_move | apply r_assign)); (focus (simp only [Tget_set, Nat.reduceEqDiff, ↓reduceIte, u5] <;> rfl)); (focus (exact sd7))) | ((with_reducible apply r_condT); (focus (exact sd3))) | ((with_reducible apply r_gT); (focus (exact sd5)); (focus rfl); (focus (exact sd3))) | ((with_reducible (first | apply r_any | apply r_cond)); focus (simp only [↓reduceIte, clsOf, clsCall, newBlk, allocOp, Fr.ev, evs, ofV, ofA, ofS, nVar, AV.cells, rowOf_mk, put_mk, put_none, upd_mk, keyOf_mk, ky_inj, pureOp, readOp, pFA, pFA1, pFA2, rLd, rdAB_row, oneCell_one, someAgg_s, hget_same, hget_hset_ite, pBin, binA, intOp_gtr, pPick, List.length_cons, List.length_nil, List.getElem?_cons_zero, List.getElem?_cons_succ, List.drop_zero, List.drop_succ_cons, List.take_succ_cons, List.take_zero, Nat.zero_add, Nat.reduceAdd, Nat.reduceLT, Nat.reduceLeDiff, Nat.reduceEqDiff, and_self, Nat.add_eq, loadA_w, loadW_a, loadW_s, aSt_w, stOut_s, wrAB_row, ovr, List.set_cons_zero, List.set_cons_succ, allCell, ic_i, callTo_s, heavyCall, target, actOp, pEx, List.nil_append, List.append_nil, binA, stepOp, stHeavy, stV_mk, stB_mk, stO_mk, sz23, ag23, sz25, ag25, Tryz.underlying25, sz31, zr31, tg31, stepAny, wantedA_none, rCall, rLen, Tget_set, u2, u3, lA, lB, ls_f hbig, adX, ls_f hbig2, fA1, fB1, fA2, fB2, sameS hw, sameT] <;> rfl)) | (with_reducible rw [ifQ_t]) | (with_reducible rw [ifQ_f]) | (with_reducible refine ifQ_intro ?_ ?_ <;> intro hb))
        subst hQ
        refine ret_back (by simp only [Tryz.results3, resultOf, resultsA, resultA, List.toList_toArray, Fr.ev, Tget_set, ↓reduceIte] <;> rfl) ?_
        exact ⟨_, rfl⟩
      | false =>
        have e0 : z1 = z2 := by rw [hz1, hz2, hno rfl]
        have n2 : (z1 == z2) = true := by simp [e0]
        repeat' (first | with_reducible (first | refine r_seq ?_ | refine r_next ?_ | refine r_block ?_ | refine r_seq_exit ?_ | refine r_seq_ret ?_ | refine r_blk_n ?_ | refine r_blk_ret ?_ | refine r_blk_hit ?_ | refine r_blk_miss rfl ?_ | refine r_skip ?_ | refine r_exit ?_ | refine r_ret ?_ | refine r_rq_exit ?_ | refine r_rq_ret ?_) | ((with_reducible apply r_regA); (focus (exact sd2)); (focus (exact sd1))) | ((with_reducible refine r_reg (List.toList_toArray) ?_ ?_); focus (exact sd1)) | ((with_reducible apply (r_drawW (id := 16) (js := [0, 1, 2, 3, 4, 5, 6, 7, 8, 9, 10, 11, 12, 13, 14, 15, 16, 17, 18, 19, 21, 20, 22, 23, 24, 25, 26, 27, 28, 29, 30, 31]))); (focus kernel_rfl); (focus kernel_rfl); (focus (exact sd1))) | ((with_reducible apply d_end); (focus (simp only [List.length_cons, List.length_nil, Nat.add_assoc, Nat.reduceAdd, Nat.zero_add] <;> rfl))) | ((with_reducible apply d_any); (focus rfl); (iterate 2 (focus (simp only [↓reduceIte, wantedA_eq, gBool_t, gBool_f, Bool.not_true, Bool.not_false, clsOf, clsCall, Fr.ev, evs, put_mk, ky_inj, pureOp, readOp, pFA, pFA1, pFA2, rLd, rdAB_row, oneCell_one, someAgg_s, hget_same, hget_hset_ite, pBin, binA, intOp_eql, intOp_neq, pPick, List.length_cons, List.length_nil, List.getElem?_cons_zero, List.getElem?_cons_succ, List.drop_zero, List.take_succ_cons, List.take_zero, Nat.zero_add, Nat.add_zero, Nat.reduceAdd, Nat.reduceLT, Nat.reduceLeDiff, Nat.reduceEqDiff, Nat.add_eq, loadA_w, loadW_a, loadW_s, callTo_s, heavyCall, target, List.nil_append, List.append_nil, binA, eqIn, eqGuardOk, beq_self_eq_true, bne_self_eq_false, Bool.and_true, stepOp, stHeavy, stV_mk, stO_mk, sz3, ag3, Tryz.underlying4, sz25, ag25, sz31, ag31, Tryz.underlying31, stepAny, wantedA_none, readSelf, av_int, av_agg, avs_nil, avs_cons, Tget_set, Nat.left_eq_add, u2, u3, gA1, gB1, gA2, ↓eqS, egS, intOp_neq, k_live, sameS hw, sameT, av_self_B hSA, av_self_B hSB, av_self_L hRA.1, av_self_L hRB.1] <;> rfl))); (focus (first | exact SameH.refl _ | (simp only [sameT, sameS hw]; done)))) | ((with_reducible apply (r_drawW (id := 18) (js := [0, 1, 2, 4, 3, 5, 6, 7, 8, 9, 10, 11]))); (focus kernel_rfl); (focus kernel_rfl); (focus (exact sd1))) | ((with_reducible apply d_end); (focus (simp only [List.length_cons, List.length_nil, Nat.add_assoc, Nat.reduceAdd, Nat.zero_add] <;> rfl))) | ((with_reducible apply d_any); (focus rfl); (iterate 2 (focus (simp only [↓reduceIte, wantedA_eq, gBool_t, clsOf, clsCall, Fr.ev, evs, put_mk, List.getElem?_cons_zero, List.getElem?_cons_succ, Nat.reduceLT, callTo_s, heavyCall, target, List.append_nil, stepOp, stHeavy, stO_mk, stepAny, readSelf, Tget_set, k_live, n2] <;> rfl))); (focus (first | exact SameH.refl _ | (simp only [sameT, sameS hw]; done)))) | ((with_reducible apply r_drawL); (focus kernel_rfl); (focus kernel_rfl); (focus (exact sd1))) | ((with_reducible apply r_end); focus (exact sd4)) | ((with_reducible (first | apply r_move | apply r_assign)); (focus (simp only [Tget_set, Nat.reduceEqDiff, ↓reduceIte, u5] <;> rfl)); (focus (exact sd7))) | ((with_reducible apply r_condT); (focus (exact sd3))) | ((with_reducible apply r_gT); (focus (exact sd5)); (focus rfl); (focus (exact sd3))) | ((with_reducible (first | apply r_any | apply r_cond)); focus (simp only [↓reduceIte, clsOf, clsCall, newBlk, allocOp, Fr.ev, evs, ofV, ofA, ofS, nVar, AV.cells, rowOf_mk, put_mk, put_none, upd_mk, keyOf_mk, ky_inj, pureOp, readOp, pFA, pFA1, pFA2, rLd, rdAB_row, oneCell_one, someAgg_s, hget_same, hget_hset_ite, pBin, binA, intOp_gtr, pPick, List.length_cons, List.length_nil, List.getElem?_cons_zero, List.getElem?_cons_succ, List.drop_zero, List.drop_succ_cons, List.take_succ_cons, List.take_zero, Nat.zero_add, Nat.reduceAdd, Nat.reduceLT, Nat.reduceLeDiff, Nat.reduceEqDiff, and_self, Nat.add_eq, loadA_w, loadW_a, loadW_s, aSt_w, stOut_s, wrAB_row, ovr, List.set_cons_zero, List.set_cons_succ, allCell, ic_i, callTo_s, heavyCall, target, actOp, pEx, List.nil_append, List.append_nil, binA, stepOp, stHeavy, stV_mk, stB_mk, stO_mk, sz23, ag23, sz25, ag25, Tryz.underlying25, sz31, zr31, tg31, stepAny, wantedA_none, rCall, rLen, Tget_set, u2, u3, lA, lB, ls_f hbig, adX, ls_f hbig2, fA1, fB1, fA2, fB2, sameS hw, sameT] <;> rfl)) | (with_reducible rw [ifQ_t]) | (with_reducible rw [ifQ_f]) | (with_reducible refine ifQ_intro ?_ ?_ <;> intro hb))
        subst hQ
        refine ret_back (by simp only [Tryz.results3, resultOf, resultsA, resultA, List.toList_toArray, Fr.ev, Tget_set, ↓reduceIte] <;> rfl) ?_
        exact ⟨_, rfl⟩

end Go.Proofs.YtfhgiadogeephaaGreatDoor

/-! A table of texts, as a row lists it. -/
namespace Go.Ai
open Go Go.Lib
theorem cells_of_strs {H : Type} {enc : TypeId × Value → H} {P : Program} {w : World} {base : Nat} {sp : Nat → Bool} {held : Bool} {fuel : Nat} {t e : TypeId} {n : Nat} {cs : List Value} {zs : List (List UInt8)} {p : List MemPlace}
    (ht : P.underlying t = some (.array n e)) (he : P.underlying e = some .string) (hce : P.cellsOf e = 1) (hct : P.cellsOf t = n)
    (h : DataW.trod enc P w base sp held fuel t cs = some (.agg (zs.map fun z => .lit (.string z)), p)) : cs = zs.map fun z => Value.string ⟨z.toArray⟩ := by
  cases fuel with
  | zero => simp [DataW.trod] at h
  | succ fuel =>
    simp only [DataW.trod, ht, hce, hct, Nat.mul_one] at h
    split at h
    · rename_i hl
      obtain ⟨xs, hm, hx⟩ := Option.map_eq_some_iff.1 h
      have hxs : xs.map (·.1) = zs.map fun z => (DataW.lit (.string z) : DataW H) := by
        have := congrArg Prod.fst hx
        simpa using this
      have hxl : xs.length = n := by simpa using mapM_length hm
      have hzl : zs.length = n := by
        have := congrArg List.length hxs
        simp at this
        omega
      apply List.ext_getElem?
      intro i
      by_cases hi : i < n
      · obtain ⟨b, hb, hf⟩ := mapM_at hm i i (by simp [hi])
        obtain ⟨z, hc, rfl, _⟩ := DataW.trod_string he hf
        have h1 : cs[i]? = some (.string z) := by
          have := congrArg (·[0]?) hc
          simpa [List.getElem?_take, List.getElem?_drop] using this
        have h2 : (xs.map (·.1))[i]? = some (DataW.lit (.string z.data.toList) : DataW H) := by simp [hb]
        rw [hxs] at h2
        simp only [List.getElem?_map, Option.map_eq_some_iff, DataW.lit.injEq, Lit.string.injEq] at h2
        obtain ⟨z', hz', rfl⟩ := h2
        simp [h1, hz']
      · rw [List.getElem?_eq_none (by omega), List.getElem?_eq_none (by simp; omega)]
    · cases h
end Go.Ai

/-! A slice of the arguments' data: what is told of each element, and where the data of it stand. -/
namespace Go.Ai
open Go
section
variable {H : Type} {enc : TypeId × Value → H} {P : Program} {w : World} {base : Nat} {spare : Nat → Bool} {held : Bool} {N : Nat} {Ok : TypeId → DataW H → Prop}
theorem trod_rows (hO : OkD P N Ok) (hsp : ∀ b, spare b = true) {fuel n : Nat} {u e : TypeId} {ts : List TypeId} {ks : List CK} {v : Value} {x : DataW H × List MemPlace} (hu : P.underlying u = some (.slice e)) (hts : cellTs P n e = some ts) (hks : kindsOf P ts = some ks) (hsz : P.cellsOf e = ks.length) (hpos : 0 < ks.length)
    (hby : 0 < P.bytesOf e) (h : DataW.trod enc P w base spare held fuel u [v] = some x) (hok : Ok u x.1) : ∃ (a : AV) (L : List (List AV)) (es : List (DataW H)), RV (rhoW w) a v ∧ RoomA a ∧ (∀ l ∈ L, cksOk ks l) ∧ L.length ≤ N ∧ (((a = .nils ∨ a = .hole) ∧ L = []) ∨ ∃ b o eo cap, a = .slice b o eo L.length cap ∧ rdAB (hget (absH w) b) o (L.length * ks.length) = some L.flatten) ∧ es.length = L.length ∧ (es = [] ∨ ∃ sp, x.1 = .slice es sp) ∧
      ∀ (i : Nat) (l : List AV), L[i]? = some l → ∃ cs y f, es[i]? = some y.1 ∧ absCs w cs = some l ∧ DataW.trod enc P w base spare held f e cs = some y := by
  rcases DataW.trod_slice hu h with ⟨hc, _⟩ | ⟨ad, len, cap, elems, rest, m, _, hc, hx, hb, hl, hcap, hel, hE, hR, _⟩
  · cases hc
    exact ⟨.nils, [], [], rfl, trivial, by simp, Nat.zero_le _, .inl ⟨.inl rfl, rfl⟩, rfl, .inl rfl, by simp⟩
  · cases hc
    rw [hx] at hok
    have hlen : len ≤ N := by have := hO.len u e _ _ hu hby hok; simpa [hel] using this
    rcases Nat.eq_zero_or_pos cap with hc0 | hcp
    · have hl0 : len = 0 := by omega
      subst hc0 hl0
      exact ⟨.hole, [], [], ⟨ad, rfl⟩, trivial, by simp, Nat.zero_le _, .inl ⟨.inr rfl, rfl⟩, rfl, .inl rfl, by simp⟩
    obtain ⟨b, o, rfl, hblt⟩ := slice_at hsp (by omega) hcp hel hE hR
    have e1 : Nat.blt b w.heap.size = true := by simpa using hblt
    have e2 : Nat.ble len cap = true := Nat.ble_eq_true_of_le hl
    have hab : absC w (.slice (some ⟨b, o, none⟩) len cap) = some (.slice b o 0 len (some cap)) := by simp only [absC, e1, e2, Bool.and_self]
    · skip
      -- an element
      have elem : ∀ i, i < cap → ∃ cells l, w.cells? base ⟨b, o + i * ks.length, none⟩ ks.length = some cells ∧ absCs w cells = some l ∧ cksOk ks l ∧ (i < len → ∃ y f, (elems.map (·.1))[i]? = some y.1 ∧ DataW.trod enc P w base spare held f e cells = some y) := by
        intro i hi
        have hq : ∃ y, (w.cells? base (Addr.add ⟨b, o, none⟩ (i * P.cellsOf e)) (P.cellsOf e)).bind (DataW.trod enc P w base spare held m e) = some y ∧ (i < len → (elems.map (·.1))[i]? = some y.1) := by
          by_cases hil : i < len
          · have := hE i hil
            have h1 : elems[i]? = some elems[i] := by simp [hel, hil]
            rw [h1] at this
            exact ⟨_, this, fun _ => by rw [List.getElem?_map, h1]; rfl⟩
          · obtain ⟨hr1, hr2⟩ := hR (hsp _)
            have := hr2 (i - len) (by omega)
            rw [show len + (i - len) = i by omega, show rest[i - len]? = some rest[i - len] by simp] at this
            exact ⟨_, this, fun h => absurd h hil⟩
        obtain ⟨y, hy, hyo⟩ := hq
        rw [hsz, add_none] at hy
        obtain ⟨cells, h1, h2⟩ := Option.bind_eq_some_iff.1 hy
        obtain ⟨l, h3, h4⟩ := trod_flat hsp hks (trod_each hts h2)
        exact ⟨cells, l, h1, h3, h4, fun hi => ⟨y, m, hyo hi, h2⟩⟩
      have build : ∀ k, k ≤ len → ∃ L : List (List AV), L.length = k ∧ ∀ (i : Nat) (l : List AV), L[i]? = some l → ∃ cells, w.cells? base ⟨b, o + i * ks.length, none⟩ ks.length = some cells ∧ absCs w cells = some l ∧ cksOk ks l ∧ ∃ y f, (elems.map (·.1))[i]? = some y.1 ∧ DataW.trod enc P w base spare held f e cells = some y := by
        intro k
        induction k with
        | zero => intro _; exact ⟨[], rfl, by simp⟩
        | succ k ih =>
          intro hk
          obtain ⟨L, h1, h2⟩ := ih (by omega)
          obtain ⟨cells, l, h3, h4, h5, h6⟩ := elem k (by omega)
          refine ⟨L ++ [l], by simp [h1], fun i l' hi => ?_⟩
          by_cases hik : i < L.length
          · rw [List.getElem?_append_left hik] at hi; exact h2 i l' hi
          · rw [List.getElem?_append_right (by omega)] at hi
            have : i = k := by
              have := (List.getElem?_eq_some_iff.1 hi).1
              simp at this; omega
            subst this
            rw [h1, Nat.sub_self] at hi
            simp at hi
            subst hi
            exact ⟨cells, h3, h4, h5, h6 (by omega)⟩
      obtain ⟨L, hL, hall⟩ := build len (Nat.le_refl _)
      have hok : ∀ l ∈ L, cksOk ks l := fun l hm => by
        obtain ⟨i, hi⟩ := List.getElem?_of_mem hm
        obtain ⟨_, _, _, h, _⟩ := hall i l hi
        exact h
      refine ⟨_, L, elems.map (·.1), absC_rv hab, hl, hok, by omega, .inr ⟨b, o, 0, some cap, by rw [hL], ?_⟩, by simp [hel, hL], .inr ⟨_, by rw [hx]⟩, fun i l hi => by
        obtain ⟨cells, _, h1, _, y, f, h2, h3⟩ := hall i l hi
        exact ⟨cells, y, f, h2, h1, h3⟩⟩
      obtain ⟨f1, f2⟩ := flatten_get (L := L) (es := ks.length) fun l hm => (hok l hm).length
      -- the row
      obtain ⟨cells0, _, hc0, _⟩ := elem 0 hcp
      obtain ⟨_, hlen0, hcell0⟩ := World.cells?_some hc0
      have h00 := hcell0 0 hpos
      rw [show cells0[0]? = some cells0[0] by simp, add_none] at h00
      have hrow : ∃ c ty fz, w.heap[b]? = some (.cells c ty fz) := by
        unfold World.cell? at h00
        cases hh : w.heap[b]? with
        | none => rw [hh] at h00; cases h00
        | some ob =>
          rw [hh] at h00
          cases ob with
          | cells c ty fz => exact ⟨c, ty, fz, rfl⟩
          | _ => simp at h00
      obtain ⟨c, ty, fz, hrow⟩ := hrow
      have hget : hget (absH w) b = some (.rom (optT (c.toList.map (absC w)) 0 .e) c.size) := by rw [hget_absH, hrow]; rfl
      have cellc : ∀ k, w.cell? ⟨b, k, none⟩ = c[k]? := fun k => by simp [World.cell?, hrow]
      have hlast : o + L.length * ks.length ≤ c.size := by
        by_cases hz : L.length = 0
        · rw [hz, Nat.zero_mul]
          rw [cellc] at h00
          have := (Array.getElem?_eq_some_iff.1 h00).1
          omega
        · obtain ⟨cells, _, h1, _⟩ := elem (L.length - 1) (by omega)
          obtain ⟨_, h2, h3⟩ := World.cells?_some h1
          have h4 := h3 (ks.length - 1) (by omega)
          rw [show cells[ks.length - 1]? = some cells[ks.length - 1] by simp, add_none, cellc] at h4
          have h5 := (Array.getElem?_eq_some_iff.1 h4).1
          have h6 : (L.length - 1) * ks.length + ks.length = L.length * ks.length := by
            rw [← Nat.succ_mul]; congr 1; omega
          omega
      rw [hget]
      simp only [rdAB]
      have hble : Nat.ble (o + L.length * ks.length) c.size = true := Nat.ble_eq_true_of_le hlast
      rw [hble]
      simp only
      refine rowGet_of f1 fun j hj => ?_
      have hes : 0 < ks.length := hpos
      have hj1 : j = j / ks.length * ks.length + j % ks.length := by rw [Nat.mul_comm]; exact (Nat.div_add_mod j ks.length).symm
      have hj2 : j % ks.length < ks.length := Nat.mod_lt _ hes
      have hj3 : j / ks.length < L.length := Nat.div_lt_of_lt_mul (by rw [Nat.mul_comm]; exact hj)
      have hLi : L[j / ks.length]? = some L[j / ks.length] := by simp [hj3]
      obtain ⟨cells, h1, h2, h3, _⟩ := hall _ _ hLi
      obtain ⟨_, h4, h5⟩ := World.cells?_some h1
      have h6 := h5 (j % ks.length) hj2
      rw [add_none, cellc] at h6
      rw [hj1, f2 _ _ hj2, hLi]
      simp only [Option.bind_some]
      rw [get_optT, if_pos (Nat.zero_le _), Nat.sub_zero, List.getElem?_map, Array.getElem?_toList, ← Nat.add_assoc, h6]
      have h7 : cells[j % ks.length]? = some (cells[j % ks.length]'(by omega)) := by simp
      rw [h7]
      simp only [Option.map_some]
      have h8 := (absCs_get h2).2 (j % ks.length) _ h7
      rw [h8]
      have h9 : (L[j / ks.length])[j % ks.length]? = some ((L[j / ks.length])[j % ks.length]'(by rw [(hok _ (List.getElem_mem hj3)).length]; exact hj2)) := by simp
      rw [h9]
end
end Go.Ai

