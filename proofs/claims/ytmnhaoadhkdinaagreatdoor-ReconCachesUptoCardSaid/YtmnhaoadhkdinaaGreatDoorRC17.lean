/- A part of the proof of the law ReconCaches. CONDITIONS: those that each theorem names. -/
import Derived.Test.YtmnhaoadhkdinaaGreatDoorPartA
import Derived.Test.YtmnhaoadhkdinaaGreatDoorPartB
namespace Go.Proofs.YtmnhaoadhkdinaaGreatDoor
open Go Go.Ai
set_option maxRecDepth 100000

theorem nBS_P1 {key : Nat} {a0 a1 a2 a3 a4 a5 a6 a7 : AV} : nBS Tryz.prog key 1 (some (.slice 34)) (some [(0, .agg [a0, a1, a2, a3, a4, a5, a6, a7])]) = some (.slice key 0 0 1 (some 1), mkRow [a0, a1, a2, a3, a4, a5, a6, a7] 8) := by
  have tg : tagA Tryz.prog 34 = 0 := by kernel_rfl
  simp only [nBS, nBS2, sz34, zr34, repl, AV.cells, nBS3, rowT_mk, buildArr, tg, mkRowT_0]
  rfl
set_option maxHeartbeats 16000000 in
theorem putA (hh : Heap) (F kc k A' B' most : Nat) (x0 : List AV) (p : PV) (l y n : AV) (Q : Nat → Nat → Prop) (G : Nat) (X : List (List AV)) (L : List PV) (hkc : kc < ky F 0) (hk : k < ky F 0) (hne : kc ≠ k) (hg' : hget hh kc = some (mkRow [.int .i64 (most : Int), l, y, n] 0)) (g' : LS true hh k 8 l X) (kp' : Kept Q G hh X L) (hG : G ≤ F) (hx' : PasI A' B' hh x0 p) (hxk : OutK k A' B') (hxc : OutK kc A' B') (hxB : B' ≤ F) (hn : smallP 100000 p) (hL : L.length ≤ most) (hm : most ≤ 1024) :
    SndQ Tryz.prog [] 10 [.ptr kc 0, .agg x0] ⟨hh, F⟩ (fun o => ∃ l' h' k' x1 A F', o = .val (.bool (dec (fndP p.nm p.args L ≠ none))) ⟨h', F'⟩ ∧ F + 1 ≤ A ∧ F' = A + 1 + 1 + 1 + 1 + 1 ∧ A ≤ F + 1 + 1 ∧ hget h' kc = some (mkRow [.int .i64 (most : Int), l', y, n] 0) ∧ LS true h' k' 8 l' (putX most X (fndP p.nm p.args L) x1) ∧ ((k' = k ∧ atKey l k) ∨ (ky F 0 ≤ k' ∧ k' < ky (F + 1) 0)) ∧ PasI (A + 1) F' h' x1 p ∧ ∀ i, i < ky F 0 → i ≠ kc → keyNe l i → hget h' i = hget hh i) := by
  have mxl : maxLen = 9223372036854775807 := by decide
  refine sndQ_wf fun hwf => sndQ_clean fun h hw hlow0 hcl => ?_
  have hS0 := hlow0.same hwf
  have hg : hget h kc = some (mkRow [.int .i64 (most : Int), l, y, n] 0) := (hlow0 kc hkc).trans hg'
  have g : LS true h k 8 l X := g'.move (hlow0 k hk)
  have kp := kp'.low (hlow0.down hG)
  have hx : PasI A' B' h x0 p := hx'.low hlow0 hxB
  obtain ⟨ok, a, r, w, i, rfl, hA, hR, hW, hI⟩ := id hx
  have iA := isCell_L hA.p
  have iR := isCell_L hR.p
  have iW := isCell_L hW.p
  have iI := isCell_L hI.p
  have sA := av_self_L hA.p
  have sR := av_self_L hR.p
  have sW := av_self_L hW.p
  have sI := av_self_L hI.p
  have kk := fun (a : Nat) => ky_old (a := a) hkc
  have kkr := fun (a : Nat) => ky_oldr (a := a) hkc
  have L1 : Low F h (hset h (ky F 0) (mkRow [.int .i64 p.cl, .int .u64 p.tok, .str p.nm, a, .int .i64 p.how, r, w, i] 0)) := (Low.refl F h).set (Nat.le_refl F)
  have S1 : SameH h (hset h (ky F 0) (mkRow [.int .i64 p.cl, .int .u64 p.tok, .str p.nm, a, .int .i64 p.how, r, w, i] 0)) := L1.same hw
  have hXL : X.length = L.length := kp.1
  have hokX := kp.ok
  have hlX : LstP h ksP l X := g.lst hokX (by omega)
  have hgB : hget (hset h (ky F 0) (mkRow [.int .i64 p.cl, .int .u64 p.tok, .str p.nm, a, .int .i64 p.how, r, w, i] 0)) kc = some (mkRow [.int .i64 (most : Int), l, y, n] 0) := (L1 kc hkc).trans hg
  have kf := k_fi (S := SC) (F := F + 1) (h := (hset h (ky F 0) (mkRow [.int .i64 p.cl, .int .u64 p.tok, .str p.nm, a, .int .i64 p.how, r, w, i] 0))) (k := kc) (c := p.cl) (t := p.tok) (n := p.nm) (a := a) (Nat.lt_of_lt_of_le hkc (ky_mono (Nat.le_succ F))) (x := .int .i64 (most : Int)) (l := l) (y := y) (z := n) (by rw [hgB]; rfl) (hA.p.same S1) (hlX.same S1) (kp.low (L1.down hG)) (Nat.le_succ_of_le hG)
  cases hf : fndP p.nm p.args L with
  | none =>
    rw [hf] at kf
    have hge2 : True := trivial
    refine sndQ_body (K := (KR SC)) kr_ok mixed noNum (m := 0) Tryz.func10 ?_
    generalize hQ : retQ _ _ _ _ _ _ = Q0
    refine body_go (c := Tryz.f10.body.getD .skip) (n := 58) rfl rfl (by simp only [↓reduceIte, T.setList, T.set_e, T.set_n, Nat.reduceDiv, Nat.reduceMod, Nat.reduceEqDiff, Nat.zero_add] <;> rfl) ?_
    simp only [Tryz.f10, Option.getD_some]
    repeat' (first | refine st ?_ | ((with_reducible (first | apply r_any | apply r_cond)); focus (simp only [↓reduceIte, clsOf, clsCall, newBlk, allocOp, Fr.ev, evs, ofV, ofA, ofS, nVar, AV.cells, rowOf_mk, put_mk, upd_mk, keyOf_mk, pureOp, readOp, pFA, pFA1, pFA2, rLd, rdAB_row, someAgg_s, hget_same, pBin, binA, intOp_geq, List.length_cons, List.length_nil, List.getElem?_cons_zero, List.drop_zero, List.take_succ_cons, List.take_zero, Nat.zero_add, Nat.add_zero, Nat.reduceAdd, Nat.reduceLT, Nat.reduceLeDiff, Nat.reduceEqDiff, Nat.reduceSub, Nat.add_eq, loadA_w, loadW_a, callTo_s, heavyCall, target, List.nil_append, List.append_nil, binA, eqIn, eqGuardOk, decide_false, Int.reduceLE, Int.reduceNeg, stepOp, stHeavy, stV_mk, stB_mk, stO_mk, T.get_n, T.set_n, T.set_e, Nat.reduceDiv, Nat.reduceMod, sz26, ag26, sz31, Tryz.underlying31, Tryz.underlying34, Tryz.underlying39, stepAny, wantedA_none, kf, idxP] <;> rfl)))
    obtain ⟨h5, e5⟩ : ∃ h5, h5 = (hset h (ky F 0) (mkRow [.int .i64 p.cl, .int .u64 p.tok, .str p.nm, a, .int .i64 p.how, r, w, i] 0)) := ⟨_, rfl⟩
    obtain ⟨l5, el5⟩ : ∃ l5, l5 = l := ⟨_, rfl⟩
    obtain ⟨X5, eX5⟩ : ∃ X5, X5 = X := ⟨_, rfl⟩
    have hg5 : hget h5 kc = some (mkRow [.int .i64 (most : Int), l5, y, n] 0) := by rw [e5, el5]; exact hgB
    have hb5 : hget h5 (ky F 0) = some (mkRow [.int .i64 p.cl, .int .u64 p.tok, .str p.nm, a, .int .i64 p.how, r, w, i] 0) := by rw [e5, hget_hset, if_pos rfl]
    have g5 : LS true h5 k 8 l5 X5 := by rw [e5, el5, eX5]; exact g.move (L1 k hk)
    have hx5 : PasP h5 [.int .i64 p.cl, .int .u64 p.tok, .str p.nm, a, .int .i64 p.how, r, w, i] p := by rw [e5]; exact (PasI.p hx).same S1
    have hX5 : X5.length ≤ most := by rw [eX5]; omega
    rw [← e5]
    have own5 : ∀ c, 0 < c → c ≤ 1267650600228229401496703205375 → hget h5 (ky F c) = none := fun c h0 hc => by rw [e5, hget_hset, if_neg (by rw [ky_inj]; omega)]; exact hcl _ (ky_le F c)
    have n7 := own5 19 (by decide) (by decide)
    have n8 := own5 20 (by decide) (by decide)
    repeat' (first | refine st ?_ | ((with_reducible apply (r_drawG (id := 6) (js := [(0, 0), (1, 0), (2, 2), (3, 6), (4, 14), (5, 0), (6, 32), (7, 96), (8, 254), (9, 511), (10, 1023), (11, 2047)]))); (focus kernel_rfl); (focus kernel_rfl); (focus (exact sd1))) | ((with_reducible apply g_undef); (focus rfl); (focus (simp only [↓reduceIte, Nat.reduceEqDiff, Nat.reduceSub, Int.reduceNeg, T.set_n, T.set_e, Nat.reduceDiv, Nat.reduceMod, wantedA_none] <;> rfl)); (focus (exact sd6))) | ((with_reducible apply g_pure); (focus rfl); (focus rfl); (focus rfl); (focus (simp only [↓reduceIte, Fr.ev, pureOp, pFA, pFA1, pFA2, List.getElem?_cons_zero, List.getElem?_cons_succ, Nat.zero_add, Nat.reduceEqDiff, Nat.reduceSub, Nat.add_eq, pNil, Int.reduceNeg, T.get_n, T.set_n, T.set_e, Nat.reduceDiv, Nat.reduceMod, sz58, Tryz.underlying89] <;> rfl)); (focus (exact sd6))) | ((with_reducible apply g_read); (focus rfl); (focus rfl); (focus rfl); (focus (simp only [↓reduceIte, Fr.ev, readOp, rLd, rdAB_row, oneCell_one, someAgg_s, List.length_cons, List.length_nil, List.drop_zero, List.drop_succ_cons, List.take_succ_cons, List.take_zero, Nat.zero_add, Nat.reduceAdd, Nat.reduceLeDiff, Nat.reduceEqDiff, Nat.reduceSub, loadA_w, loadW_a, loadW_s, Int.reduceNeg, T.get_n, T.set_n, T.set_e, Nat.reduceDiv, Nat.reduceMod, sz34, ag34, sz58, ag58, addMade_nil, hg5, hb5] <;> rfl)); (focus (exact sd6))))
    refine g_callC (S := SC) (f := 31) (s0 := ⟨h5, F + 1⟩) (by rfl) (by first | rfl | (simp only [wantedA_none, Tget_set])) (by first | rfl | (simp only [withH_mk, ky_inj, Nat.testBit_eq_decide_div_mod_eq, Nat.reducePow, addMade_nil, addMade_cons, mad1_t, mad1_o, mad1_f, addAll_nil, addAll_cons, readsLeft_nil, readsLeft_cons, rdl1_t, rdl1_f, readsOk_nil, readsOk_cons, rok1_s, asideOk_nil, asideOk_cons, asd1_n, asd1_s, av_str, av_int, av_bool, av_ptr, av_sl, av_nils, av_nili, av_agg, av_if, avs_nil, avs_cons, Bool.and_self, iA, iR, iW, iI, kk, kkr, hg5, hb5, g5.self, n7, n8]; done) | (simp only [withH_mk, ky_inj, Nat.testBit_eq_decide_div_mod_eq, Nat.reducePow, addMade_nil, addMade_cons, mad1_t, mad1_o, mad1_f, addAll_nil, addAll_cons, readsLeft_nil, readsLeft_cons, rdl1_t, rdl1_f, readsOk_nil, readsOk_cons, rok1_s, asideOk_nil, asideOk_cons, asd1_n, asd1_s, av_str, av_int, av_bool, av_ptr, av_sl, av_nils, av_nili, av_agg, av_if, avs_nil, avs_cons, Bool.and_self, iA, iR, iW, iI, kk, kkr, hg5, hb5, g5.self, n7, n8] <;> rfl)) (by simp only [callOuts, callTo_s, target, evs, Fr.ev, Tget_set, ↓reduceIte, List.nil_append, List.append_nil]; exact kc_miss rfl) ?_ ?_
    · exact ownQ hx5 hn
    intro oo ho
    obtain ⟨x1, h6, rfl, hx6, low56, hs56⟩ := ho p hx5 hn
    have hx6 : PasI (F + 1 + 1) (F + 1 + 1 + 1 + 1 + 1 + 1) h6 x1 p := hx6
    have l56 : Low (F + 1) h5 h6 := low56
    have q6 : ∀ c, c ≤ 1267650600228229401496703205375 → hget h6 (ky F c) = hget h5 (ky F c) := fun c hc => l56.own (by omega) hc
    obtain ⟨ok1, a1, r1, w1, i1, rfl, hA1, hR1, hW1, hI1⟩ := id hx6
    have hg6 : hget h6 kc = some (mkRow [.int .i64 (most : Int), l5, y, n] 0) := (l56 kc (Nat.lt_of_lt_of_le hkc (ky_mono (by omega)))).trans hg5
    have hb6 : hget h6 (ky F 0) = some (mkRow [.int .i64 p.cl, .int .u64 p.tok, .str p.nm, a, .int .i64 p.how, r, w, i] 0) := (q6 0 (by decide)).trans hb5
    have m7 := (q6 19 (by decide)).trans n7
    have m8 := (q6 20 (by decide)).trans n8
    have iA1 := isCell_L hA1.p
    have iR1 := isCell_L hR1.p
    have iW1 := isCell_L hW1.p
    have iI1 := isCell_L hI1.p
    have sA1 := av_self_L hA1.p
    have sR1 := av_self_L hR1.p
    have sW1 := av_self_L hW1.p
    have sI1 := av_self_L hI1.p
    have hcx : allCell [.int .i64 p.cl, .int .u64 p.tok, .str p.nm, a1, .int .i64 p.how, r1, w1, i1] = true := cks_cell ok1
    have g6 : LS true h6 k 8 l5 X5 := g5.move (l56 k (Nat.lt_of_lt_of_le hk (ky_mono (by omega))))
    have g7 : LS true (hset h6 (ky F 19) (mkRow [.int .i64 p.cl, .int .u64 p.tok, .str p.nm, a1, .int .i64 p.how, r1, w1, i1] 8)) k 8 l5 X5 := g6.move (by rw [hget_hset, if_neg (by have := ky_le F 19; omega)])
    obtain ⟨l8, h8, k8, ap1, g8, hk8, mm8⟩ := g7.app1 (P := Tryz.prog) (t := 58) (t2 := 58) (key := ky F 20) (f := F + 1 + 1 + 1 + 1 + 1 + 1) (x := [.int .i64 p.cl, .int .u64 p.tok, .str p.nm, a1, .int .i64 p.how, r1, w1, i1]) (b := .slice (ky F 19) 0 0 1 (some 1)) Tryz.underlying58 Tryz.underlying58 sz34 by_P zo_P (src_one rfl (by rw [hget_hset, if_pos rfl])) (by decide) rfl hcx (by omega) (by decide)
    have hne8 : ∀ i, i < ky F 0 → keyNe l5 i → hget h8 i = hget h6 i := fun i hi hik => by
      rw [mm8 i (by have := ky_le F 20; omega) hik, hget_hset, if_neg (by have := ky_le F 19; omega)]
    have hg8 : hget h8 kc = some (mkRow [.int .i64 (most : Int), l5, y, n] 0) := (hne8 kc hkc (g7.ne hne)).trans hg6
    have r78 : hget h8 (ky F 19) = some (mkRow [.int .i64 p.cl, .int .u64 p.tok, .str p.nm, a1, .int .i64 p.how, r1, w1, i1] 8) := by
      rw [mm8 _ (by rw [Ne, ky_inj]; decide) (g7.ne (by have := ky_le F 19; omega)), hget_hset, if_pos rfl]
    have hb8 : hget h8 (ky F 0) = some (mkRow [.int .i64 p.cl, .int .u64 p.tok, .str p.nm, a, .int .i64 p.how, r, w, i] 0) := by
      rw [mm8 _ (by rw [Ne, ky_inj]; decide) (g7.ne (by have := ky_le F 0; omega)), hget_hset, if_neg (by rw [ky_inj]; decide)]; exact hb6
    have sl8 := (LO.s (o := true) g8).self
    have il8 := g8.cell
    have xl8 := (LO.s (o := true) g8).cls
    simp only [AV.cells] at xl8
    have len8 := fun (h2 : Heap) => g8.len (h2 := h2) Tryz.underlying58
    have hl8 : (X5 ++ [[.int .i64 p.cl, .int .u64 p.tok, .str p.nm, a1, .int .i64 p.how, r1, w1, i1]]).length ≤ most + 1 := by simp; omega
    have sub8 := intOp_sub (P := Tryz.prog) (t := 3) (show inR (((X5 ++ [[.int .i64 p.cl, .int .u64 p.tok, .str p.nm, a1, .int .i64 p.how, r1, w1, i1]]).length : Int) - (most : Int)) by unfold inR; omega)
    obtain ⟨l9, slF, g9⟩ := g8.from (P := Tryz.prog) (t := 58) (d := (X5 ++ [[.int .i64 p.cl, .int .u64 p.tok, .str p.nm, a1, .int .i64 p.how, r1, w1, i1]]).length - most) Tryz.underlying58 sz34 (by omega)
    have sl9 := (LO.s (o := true) g9).self
    have il9 := g9.cell
    have xl9 := (LO.s (o := true) g9).cls
    simp only [AV.cells] at xl9
    refine ⟨_, by simp only [put_mk, Nat.reduceLT, ↓reduceIte] <;> rfl, ?_, ?_, ?_⟩
    · first | rfl | (simp only [↓reduceIte, Fr.ev, readOp, rLd, rdAB_row, oneCell_one, List.length_cons, List.length_nil, List.drop_zero, List.drop_succ_cons, List.take_succ_cons, List.take_zero, Nat.zero_add, Nat.reduceAdd, Nat.reduceLeDiff, Nat.reduceEqDiff, Nat.reduceSub, loadA_w, loadW_s, decide_true, decide_false, Int.reduceNeg, T.get_n, T.set_n, T.set_e, Nat.reduceDiv, Nat.reduceMod, sz58, ag58, Nat.testBit_eq_decide_div_mod_eq, Nat.reducePow, addMade_nil, readsLeft_nil, readsLeft_cons, rdl1_t, rdl1_f, readsOk_nil, readsOk_cons, rok1_s, Bool.and_self, hg6, g5.self] <;> rfl)
    · first | rfl | (simp only [↓reduceIte, wantedA_eq, gBool_t, gBool_f, Bool.not_true, Bool.not_false, Bool.not_not, clsOf, clsCall, newBlk, allocOp, ev_tmp, Fr.ev, evs, evParts, ofV, ofA, ofS, ofSs, ofAs, nVar, AV.cells, rowOf_mk, rowT_mk, mkRowT_0, put_mk, put_none, upd_mk, withH_mk, keyOf_mk, ky_inj, pureOp, readOp, T.get_e, pFA, pFA1, pFA2, rLd, rdAB_row, oneCell_one, someAgg_s, hget_same, hget_hset_ite, pBin, binA, intOp_eql, intOp_neq, intOp_lss, intOp_leq, intOp_gtr, intOp_geq, pPick, List.length_cons, List.length_nil, List.getElem?_cons_zero, List.getElem?_cons_succ, List.drop_zero, List.drop_succ_cons, List.take_succ_cons, List.take_zero, Nat.zero_add, Nat.add_zero, Nat.reduceAdd, Nat.reduceLT, Nat.reduceLeDiff, Nat.reduceEqDiff, Nat.reduceMul, Nat.reduceSub, Nat.succ_eq_add_one, if_true, if_false, true_and, and_true, and_self, List.toList_toArray, Nat.add_eq, Nat.mul_eq, Nat.sub_eq, loadA_w, loadW_a, loadW_s, aSt_w, stOut_s, wrAB_row, ovr, List.set_cons_zero, List.set_cons_succ, allCell, ic_b, ic_i, ic_s, ic_np, ic_p, ic_g, ic_ns, ic_h, ic_sl, ic_nm, ic_m, ic_nf, ic_f, ic_ni, ic_if, pUn_not, callTo_s, heavyCall, target, actOp, pEx, List.nil_append, List.append_nil, pNil, pBuild, pBuild2, fieldsOk, buildParts, List.getElem?_nil, pMkF, binA, eqIn, eqGuardOk, pF, pF1, partA, beq_self_eq_true, bne_self_eq_false, decide_true, decide_false, Int.reduceBEq, Int.reduceBNe, Int.reduceLT, Int.reduceLE, Int.reduceEq, Int.reduceNeg, Int.reduceAdd, Int.reduceSub, Bool.and_true, Bool.true_and, Bool.and_false, Bool.false_and, stepOp, stHeavy, stV_mk, stB_mk, stO_mk, T.get_n, T.set_n, T.set_e, Nat.reduceDiv, Nat.reduceMod, ofNat_z, sz2, ag2, zr2, tg2, Tryz.underlying2, sz3, ag3, zr3, tg3, Tryz.underlying3, sz9, ag9, zr9, tg9, Tryz.underlying9, sz23, ag23, zr23, tg23, Tryz.underlying23, sz24, ag24, zr24, tg24, Tryz.underlying24, sz26, ag26, zr26, tg26, Tryz.underlying26, sz27, ag27, zr27, tg27, Tryz.underlying27, sz29, ag29, zr29, tg29, Tryz.underlying29, sz31, ag31, zr31, tg31, Tryz.underlying31, sz32, ag32, zr32, tg32, Tryz.underlying32, sz34, ag34, zr34, tg34, Tryz.underlying34, sz39, ag39, zr39, tg39, Tryz.underlying39, sz58, ag58, zr58, tg58, Tryz.underlying58, sz64, ag64, zr64, tg64, Tryz.underlying64, sz66, ag66, zr66, tg66, Tryz.underlying66, sz89, ag89, zr89, tg89, Tryz.underlying89, stepAny, wantedA_none, rCall, rLen, rLen1_str, rLen1_sl, lenA, Tget_set, natOf_c, Nat.left_eq_add, Nat.add_eq_left, Nat.testBit_eq_decide_div_mod_eq, Nat.reducePow, addMade_nil, addMade_cons, mad1_t, mad1_o, mad1_f, addAll_nil, addAll_cons, readsLeft_nil, readsLeft_cons, rdl1_t, rdl1_f, readsOk_nil, readsOk_cons, rok1_s, asideOk_nil, asideOk_cons, asd1_n, asd1_s, av_str, av_int, av_bool, av_ptr, av_sl, av_nils, av_nili, av_agg, av_if, avs_nil, avs_cons, Bool.and_self, sA, sR, sW, sI, av_self_slice, g5.self, sA1, sR1, sW1, sI1, sl8, iA, iR, iW, iI, kk, kkr, hge2, hg6, hb6, g5.self, m7, m8, nBS_P1, iA1, iR1, iW1, iI1, aBuiltin, aApp, aApp2, outOf, ap1, hg8, hb8, r78, il8, xl8] <;> rfl)
    repeat' (first | refine st ?_ | ((with_reducible apply (r_drawG (id := 6) (js := [(0, 0), (1, 0), (2, 2), (3, 6), (4, 14), (5, 0), (6, 32), (7, 96), (8, 254), (9, 511), (10, 1023), (11, 2047)]))); (focus kernel_rfl); (focus kernel_rfl); (focus (exact sd1))) | ((with_reducible apply g_end); (focus (simp only [List.length_cons, List.length_nil, Nat.reduceAdd, Nat.zero_add] <;> rfl)); simp only [withH_mk, addAll_nil, addAll_cons, ↓reduceIte, withH_mk, hget_hset_ite, Nat.reduceAdd, Nat.reduceEqDiff, Nat.reduceSub, Int.reduceNeg, T.set_n, T.set_e, Nat.reduceDiv, Nat.reduceMod, mad1_o, addAll_nil, addAll_cons, kkr, r78]) | ((with_reducible apply g_undef); (focus rfl); (focus (simp only [↓reduceIte, Nat.reduceEqDiff, Nat.reduceSub, Int.reduceNeg, T.set_n, T.set_e, Nat.reduceDiv, Nat.reduceMod, wantedA_none] <;> rfl)); (focus (exact sd6))) | ((with_reducible apply g_pure); (focus rfl); (focus rfl); (focus rfl); (focus (simp only [↓reduceIte, Fr.ev, pureOp, pFA, pFA1, pFA2, List.getElem?_cons_zero, List.getElem?_cons_succ, Nat.zero_add, Nat.reduceEqDiff, Nat.reduceSub, Nat.add_eq, pNil, Int.reduceNeg, T.get_n, T.set_n, T.set_e, Nat.reduceDiv, Nat.reduceMod, sz58, Tryz.underlying89] <;> rfl)); (focus (exact sd6))) | ((with_reducible apply g_alloc); (focus rfl); (focus rfl); (focus rfl); (focus (simp only [keyOf_mk] <;> rfl)); (focus (simp only [↓reduceIte, allocOp, Fr.ev, evParts, Nat.reduceAdd, Nat.reduceEqDiff, Nat.reduceSub, Int.reduceNeg, T.get_n, T.set_n, T.set_e, Nat.reduceDiv, Nat.reduceMod, Tryz.underlying58, nBS_P1] <;> rfl)); (focus (simp only [Nat.reduceAdd, m7])); (focus (exact sd6))) | ((with_reducible apply g_act); (focus rfl); (focus rfl); (focus rfl); (focus rfl); (focus (simp only [heavy, ↓reduceIte, Fr.ev, AV.cells, withH_mk, keyOf_mk, List.length_cons, List.length_nil, Nat.zero_add, Nat.reduceAdd, Nat.reduceLeDiff, Nat.reduceEqDiff, Nat.reduceSub, and_self, aSt_w, stOut_s, wrAB_row, ovr, List.set_cons_zero, List.set_cons_succ, allCell, heavyCall, actOp, decide_true, Int.reduceNeg, T.get_n, T.set_n, T.set_e, Nat.reduceDiv, Nat.reduceMod, sz58, Nat.testBit_eq_decide_div_mod_eq, Nat.reducePow, addMade_nil, addMade_cons, mad1_t, mad1_o, m7, aBuiltin, aApp, aApp2, outOf, ap1, hg8, r78, il8, xl8] <;> rfl)); (focus (exact sd6)); (focus (simp only [↓reduceIte, Nat.reduceAdd, Nat.reduceEqDiff, Nat.reduceSub, decide_true, Int.reduceNeg, T.set_n, T.set_e, Nat.reduceDiv, Nat.reduceMod, Nat.testBit_eq_decide_div_mod_eq, Nat.reducePow, readsLeft_nil, readsLeft_cons, rdl1_t, readsOk_nil] <;> rfl)); (focus (simp only [↓reduceIte, hget_same, hget_hset_ite, Nat.reduceAdd, decide_true, Nat.reduceDiv, Nat.reduceMod, Nat.testBit_eq_decide_div_mod_eq, Nat.reducePow, addMade_nil, addMade_cons, mad1_t, mad1_o, asideOk_nil, asideOk_cons, asd1_s, kkr, m7, r78] <;> rfl))))
    repeat' (first | refine st ?_ | ((with_reducible apply (r_drawG (id := 7) (js := [(0, 0), (1, 0), (2, 2), (3, 6), (4, 14), (5, 0), (6, 32), (7, 96), (8, 224), (9, 480), (10, 0), (11, 1024), (12, 3072), (13, 7168), (14, 16352), (15, 32736), (16, 65534), (17, 131071), (18, 262143), (19, 524287)]))); (focus kernel_rfl); (focus kernel_rfl); (focus (exact sd1))) | ((with_reducible apply g_end); (focus (simp only [List.length_cons, List.length_nil, Nat.reduceAdd, Nat.zero_add] <;> rfl)); simp only [withH_mk, addAll_nil, ↓reduceIte, withH_mk, Nat.reduceEqDiff, Nat.reduceSub, Int.reduceNeg, T.set_n, T.set_e, Nat.reduceDiv, Nat.reduceMod, addAll_nil]) | ((with_reducible apply g_undef); (focus rfl); (focus (simp only [↓reduceIte, Nat.reduceEqDiff, Nat.reduceSub, Int.reduceNeg, T.set_n, T.set_e, Nat.reduceDiv, Nat.reduceMod, wantedA_none] <;> rfl)); (focus (exact sd6))) | ((with_reducible apply g_pure); (focus rfl); (focus rfl); (focus rfl); (focus (simp only [↓reduceIte, Fr.ev, pureOp, pFA, pFA1, pFA2, pBin, binA, List.getElem?_cons_zero, List.getElem?_cons_succ, Nat.zero_add, Nat.add_zero, Nat.reduceEqDiff, Nat.reduceSub, Nat.add_eq, pNil, binA, Int.reduceNeg, T.get_n, T.set_n, T.set_e, Nat.reduceDiv, Nat.reduceMod, sz3, sz58, Tryz.underlying89, sub8] <;> rfl)); (focus (exact sd6))) | ((with_reducible apply g_read); (focus rfl); (focus rfl); (focus rfl); (focus (simp only [↓reduceIte, Fr.ev, readOp, rLd, rdAB_row, oneCell_one, hget_same, List.length_cons, List.length_nil, List.getElem?_cons_zero, List.drop_zero, List.drop_succ_cons, List.take_succ_cons, List.take_zero, Nat.zero_add, Nat.reduceAdd, Nat.reduceLeDiff, Nat.reduceEqDiff, Nat.reduceSub, loadA_w, loadW_s, Int.reduceNeg, T.get_n, T.set_n, T.set_e, Nat.reduceDiv, Nat.reduceMod, sz3, ag3, sz58, ag58, rCall, rLen, addMade_nil, len8, slF, rSl, pSlice, Go.Ai.evO] <;> rfl)); (focus (exact sd6))) | ((with_reducible apply g_act); (focus rfl); (focus rfl); (focus rfl); (focus rfl); (focus (simp only [heavy, ↓reduceIte, Fr.ev, evs, ofV, ofA, ofS, AV.cells, withH_mk, hget_same, List.length_cons, List.length_nil, Nat.zero_add, Nat.reduceAdd, Nat.reduceLeDiff, Nat.reduceEqDiff, Nat.reduceSub, and_self, aSt_w, stOut_s, wrAB_row, ovr, List.set_cons_zero, List.set_cons_succ, allCell, heavyCall, actOp, Int.reduceNeg, T.get_n, T.set_n, T.set_e, Nat.reduceDiv, Nat.reduceMod, sz58, addMade_nil, aMx_sub, aBuiltin, il9, xl9] <;> rfl)); (focus (exact sd6)); (focus (simp only [↓reduceIte, Fr.ev, readOp, rLd, rdAB_row, oneCell_one, hget_same, List.length_cons, List.length_nil, List.drop_zero, List.drop_succ_cons, List.take_succ_cons, List.take_zero, Nat.zero_add, Nat.reduceAdd, Nat.reduceLeDiff, Nat.reduceEqDiff, Nat.reduceSub, loadA_w, loadW_s, decide_true, decide_false, Int.reduceNeg, T.get_n, T.set_n, T.set_e, Nat.reduceDiv, Nat.reduceMod, sz58, ag58, Nat.testBit_eq_decide_div_mod_eq, Nat.reducePow, addMade_nil, readsLeft_nil, readsLeft_cons, rdl1_t, rdl1_f, readsOk_nil, readsOk_cons, rok1_s, Bool.and_self, sl8] <;> rfl)); (focus (simp only [addMade_nil, asideOk_nil] <;> rfl))) | ((with_reducible apply r_drawL); (focus kernel_rfl); (focus kernel_rfl); (focus (exact sd1))) | ((with_reducible (first | apply r_any | apply r_cond)); focus (simp only [↓reduceIte, clsOf, Fr.ev, ofV, ofA, ofS, put_mk, pureOp, pBin, binA, intOp_geq, Nat.reduceLT, Nat.reduceEqDiff, Nat.reduceSub, binA, decide_false, Int.reduceLE, Int.reduceNeg, stepOp, stV_mk, T.get_n, T.set_n, T.set_e, Nat.reduceDiv, Nat.reduceMod, stepAny, wantedA_none] <;> rfl)))
    subst hQ
    refine ret_back (by simp only [Tryz.results10, resultOf, resultsA, resultA, List.toList_toArray, Fr.ev, Tget_set, ↓reduceIte] <;> rfl) ?_
    have hk8' : k8 ≠ kc := by
      rcases hk8 with e | ⟨e, _⟩
      · rw [e]; have := ky_le F 20; omega
      · rw [e]; exact Ne.symm hne
    refine ⟨l9, _, k8, [.int .i64 p.cl, .int .u64 p.tok, .str p.nm, a1, .int .i64 p.how, r1, w1, i1], F + 1, _, out_eq (by rw [dec_f (p := (none : Option Nat) ≠ none) fun h => h rfl]), by omega, rfl, by omega, by rw [hget_hset, if_pos rfl], ?_, ?_, ?_, fun i hi hik hil => ?_⟩
    · rw [show putX most X none [.int .i64 p.cl, .int .u64 p.tok, .str p.nm, a1, .int .i64 p.how, r1, w1, i1] = (X5 ++ [[.int .i64 p.cl, .int .u64 p.tok, .str p.nm, a1, .int .i64 p.how, r1, w1, i1]]).drop ((X5 ++ [[.int .i64 p.cl, .int .u64 p.tok, .str p.nm, a1, .int .i64 p.how, r1, w1, i1]]).length - most) from by rw [eX5]; rfl]
      exact (LO.s (g9.move (by rw [hget_hset, if_neg hk8', hget_hset, if_neg hk8'])))
    · rcases hk8 with e | ⟨e, g5'⟩
      · exact .inr ⟨by rw [e]; exact ky_le F 20, by rw [e]; exact ky_next F 20 (by decide)⟩
      · exact .inl ⟨e, by rw [← el5]; exact g5'.key⟩
    · refine hx6.move (fun b h1 h2 => ?_)
      have y1 : ky (F + 1) 0 ≤ ky (F + 1 + 1) 0 := ky_mono (by omega)
      have y7 := ky_next F 19 (by decide)
      have y8 := ky_next F 20 (by decide)
      have y0 := ky_mono (show F ≤ F + 1 by omega)
      rw [hget_hset, if_neg (by omega), hget_hset, if_neg (by omega), mm8 b (by omega) (g7.ne (by omega)), hget_hset, if_neg (by omega)]
    · have y0 := ky_mono (show F ≤ F + 1 by omega)
      rw [hget_hset, if_neg hik, hget_hset, if_neg hik, hne8 i hi (by rw [el5]; exact hil), l56 i (by omega)]
      rw [e5, L1 i hi]; exact hlow0 i hi
  | some i0 =>
    rw [hf] at kf
    have hi0 := fnd_lt hf
    obtain ⟨T0, D, xd, rfl, rfl⟩ : ∃ T0 D xd, X = T0 ++ xd :: D ∧ i0 = T0.length := ⟨X.take i0, X.drop (i0 + 1), X[i0]'(by omega), by rw [← List.drop_eq_getElem_cons (by omega), List.take_append_drop], by rw [List.length_take]; omega⟩
    have hTD : T0.length + D.length + 1 = L.length := by rw [← hXL]; simp; omega
    have ad0 : intOp Tryz.prog .add 3 .i64 .i64 (T0.length : Int) 1 = some (.int .i64 ((T0.length + 1 : Nat) : Int)) := intOp_add (P := Tryz.prog) (t := 3) (inR_succ hi0 (by omega : L.length ≤ maxLen))
    have gLO : LO h k 8 l (T0 ++ xd :: D) := by
      rcases g with ⟨_, e⟩ | g | ⟨e, _⟩
      · simp at e
      · exact g
      · cases e
    have hge : decide ((T0.length : Int) ≥ 0) = true := decide_eq_true (by omega)
    have hge2 : decide (0 ≤ (T0.length : Int)) = true := decide_eq_true (by omega)
    refine sndQ_body (K := (KR SC)) kr_ok mixed noNum (m := 0) Tryz.func10 ?_
    generalize hQ : retQ _ _ _ _ _ _ = Q0
    refine body_go (c := Tryz.f10.body.getD .skip) (n := 58) rfl rfl (by simp only [↓reduceIte, T.setList, T.set_e, T.set_n, Nat.reduceDiv, Nat.reduceMod, Nat.reduceEqDiff, Nat.zero_add] <;> rfl) ?_
    simp only [Tryz.f10, Option.getD_some]
    repeat' (first | refine st ?_ | ((with_reducible apply r_drawL); (focus kernel_rfl); (focus kernel_rfl); (focus (exact sd1))) | ((with_reducible (first | apply r_any | apply r_cond)); focus (simp only [↓reduceIte, clsOf, clsCall, newBlk, allocOp, Fr.ev, evs, ofV, ofA, ofS, nVar, AV.cells, rowOf_mk, put_mk, upd_mk, keyOf_mk, pureOp, readOp, pFA, pFA1, pFA2, rLd, rdAB_row, oneCell_one, someAgg_s, hget_same, hget_hset_ite, pBin, binA, intOp_geq, List.length_cons, List.length_nil, List.getElem?_cons_zero, List.getElem?_cons_succ, List.drop_zero, List.drop_succ_cons, List.take_succ_cons, List.take_zero, Nat.zero_add, Nat.add_zero, Nat.reduceAdd, Nat.reduceLT, Nat.reduceLeDiff, Nat.reduceEqDiff, Nat.reduceSub, Nat.add_eq, loadA_w, loadW_a, loadW_s, callTo_s, heavyCall, target, List.nil_append, List.append_nil, pNil, binA, eqIn, eqGuardOk, stepOp, stHeavy, stV_mk, stB_mk, stO_mk, T.get_n, T.set_n, T.set_e, Nat.reduceDiv, Nat.reduceMod, sz26, ag26, sz31, Tryz.underlying31, Tryz.underlying34, Tryz.underlying39, sz58, ag58, Tryz.underlying89, stepAny, wantedA_none, kk, kf, idxP, hg, hge, ad0] <;> rfl)))
    refine r_callC (S := SC) (f := 30) (by first | rfl | (simp only [wantedA_none, Tget_set])) (by simp only [callOuts, callTo_s, target, evs, Fr.ev, T.get_n, Nat.reduceEqDiff, Nat.reduceDiv, Nat.reduceMod, Nat.reduceSub, ↓reduceIte, List.nil_append, List.append_nil]; exact kc_miss rfl) ?_ ?_
    · exact delQ (Nat.lt_of_lt_of_le hk (ky_mono (Nat.le_succ F))) (gLO.move (L1 k hk)) (fun y hy => cks_cell (hokX y (by simp [hy]))) (by omega)
    intro oo ho
    obtain ⟨l2, h2, rfl, g2, lk2⟩ := ho k T0 D xd (gLO.move (L1 k hk)) rfl rfl (Nat.lt_of_lt_of_le hk (ky_mono (Nat.le_succ F))) (fun y hy => cks_cell (hokX y (by simp [hy]))) (by omega)
    have lk2 : LowK k (F + 1) (hset h (ky F 0) (mkRow [.int .i64 p.cl, .int .u64 p.tok, .str p.nm, a, .int .i64 p.how, r, w, i] 0)) h2 := lk2
    have hg2 : hget h2 kc = some (mkRow [.int .i64 (most : Int), l, y, n] 0) := (lk2 kc (Nat.lt_of_lt_of_le hkc (ky_mono (Nat.le_succ F))) hne).trans hgB
    have il2 := g2.cell
    have xl2 := (LO.s (o := true) g2).cls
    simp only [AV.cells] at xl2
    refine ⟨_, by simp only [put_mk, Nat.reduceLT, ↓reduceIte] <;> rfl, ?_⟩
    repeat' (first | refine st ?_ | ((with_reducible (first | apply r_any | apply r_cond)); focus (simp only [↓reduceIte, clsOf, Fr.ev, AV.cells, put_mk, put_none, pureOp, pFA, pFA1, pFA2, List.length_cons, List.length_nil, List.getElem?_cons_zero, List.getElem?_cons_succ, Nat.zero_add, Nat.reduceAdd, Nat.reduceLT, Nat.reduceLeDiff, Nat.reduceEqDiff, Nat.reduceSub, and_self, Nat.add_eq, aSt_w, stOut_s, wrAB_row, ovr, List.set_cons_zero, List.set_cons_succ, allCell, actOp, pNil, stepOp, stHeavy, stV_mk, stO_mk, T.get_n, T.set_n, T.set_e, Nat.reduceDiv, Nat.reduceMod, sz58, Tryz.underlying89, stepAny, wantedA_none, hg2, il2, xl2] <;> rfl)))
    obtain ⟨h5, e5⟩ : ∃ h5, h5 = hset h2 kc (mkRow [.int .i64 (most : Int), l2, y, n] 0) := ⟨_, rfl⟩
    obtain ⟨l5, el5⟩ : ∃ l5, l5 = l2 := ⟨_, rfl⟩
    obtain ⟨X5, eX5⟩ : ∃ X5, X5 = T0 ++ D := ⟨_, rfl⟩
    have eEr : (T0 ++ xd :: D).eraseIdx T0.length = T0 ++ D := by rw [List.eraseIdx_append_of_length_le (Nat.le_refl _), Nat.sub_self, List.eraseIdx_zero, List.tail_cons]
    have kkF : ∀ c, ky F c ≠ kc := fun c e => by have := ky_le F c; omega
    have kkG : ∀ c, ky F c ≠ k := fun c e => by have := ky_le F c; omega
    have own2 : ∀ c, c ≤ 1267650600228229401496703205375 → hget h2 (ky F c) = hget (hset h (ky F 0) (mkRow [.int .i64 p.cl, .int .u64 p.tok, .str p.nm, a, .int .i64 p.how, r, w, i] 0)) (ky F c) := fun c hc => lk2 _ (ky_next F c hc) (kkG c)
    have hg5 : hget h5 kc = some (mkRow [.int .i64 (most : Int), l5, y, n] 0) := by rw [e5, el5, hget_hset, if_pos rfl]
    have hb5 : hget h5 (ky F 0) = some (mkRow [.int .i64 p.cl, .int .u64 p.tok, .str p.nm, a, .int .i64 p.how, r, w, i] 0) := by rw [e5, hget_hset, if_neg (kkF 0), own2 0 (by decide), hget_hset, if_pos rfl]
    have g5 : LS true h5 k 8 l5 X5 := by rw [e5, el5, eX5]; exact (LO.s g2).move (by rw [hget_hset, if_neg (Ne.symm hne)])
    have hx5 : PasP h5 [.int .i64 p.cl, .int .u64 p.tok, .str p.nm, a, .int .i64 p.how, r, w, i] p := by
      rw [e5]
      refine PasI.p ((hx.low L1 hxB).move (EqI.trans (lk2.eqI hxk (by omega)) (fun b h1 h2 => ?_)))
      rw [hget_hset, if_neg]
      intro e
      rcases hxc with hc | hc <;> omega
    have hX5 : X5.length ≤ most := by rw [eX5]; simp; omega
    rw [← e5]
    have own5 : ∀ c, 0 < c → c ≤ 1267650600228229401496703205375 → hget h5 (ky F c) = none := fun c h0 hc => by rw [e5, hget_hset, if_neg (kkF c), own2 c hc, hget_hset, if_neg (by rw [ky_inj]; omega)]; exact hcl _ (ky_le F c)
    have n7 := own5 31 (by decide) (by decide)
    have n8 := own5 32 (by decide) (by decide)
    repeat' (first | refine st ?_ | ((with_reducible apply (r_drawG (id := 6) (js := [(0, 0), (1, 0), (2, 2), (3, 6), (4, 14), (5, 0), (6, 32), (7, 96), (8, 254), (9, 511), (10, 1023), (11, 2047)]))); (focus kernel_rfl); (focus kernel_rfl); (focus (exact sd1))) | ((with_reducible apply g_undef); (focus rfl); (focus (simp only [↓reduceIte, Nat.reduceEqDiff, Nat.reduceSub, T.set_n, T.set_e, Nat.reduceDiv, Nat.reduceMod, wantedA_none] <;> rfl)); (focus (exact sd6))) | ((with_reducible apply g_pure); (focus rfl); (focus rfl); (focus rfl); (focus (simp only [↓reduceIte, Fr.ev, pureOp, pFA, pFA1, pFA2, List.getElem?_cons_zero, List.getElem?_cons_succ, Nat.zero_add, Nat.reduceEqDiff, Nat.reduceSub, Nat.add_eq, pNil, T.get_n, T.set_n, T.set_e, Nat.reduceDiv, Nat.reduceMod, sz58, Tryz.underlying89] <;> rfl)); (focus (exact sd6))) | ((with_reducible apply g_read); (focus rfl); (focus rfl); (focus rfl); (focus (simp only [↓reduceIte, Fr.ev, readOp, rLd, rdAB_row, oneCell_one, someAgg_s, List.length_cons, List.length_nil, List.drop_zero, List.drop_succ_cons, List.take_succ_cons, List.take_zero, Nat.zero_add, Nat.reduceAdd, Nat.reduceLeDiff, Nat.reduceEqDiff, Nat.reduceSub, loadA_w, loadW_a, loadW_s, T.get_n, T.set_n, T.set_e, Nat.reduceDiv, Nat.reduceMod, sz34, ag34, sz58, ag58, addMade_nil, hg5, hb5] <;> rfl)); (focus (exact sd6))))
    refine g_callC (S := SC) (f := 31) (s0 := ⟨h5, F + 1 + 1⟩) (by rfl) (by first | rfl | (simp only [wantedA_none, Tget_set])) (by first | rfl | (simp only [withH_mk, ky_inj, Nat.testBit_eq_decide_div_mod_eq, Nat.reducePow, addMade_nil, addMade_cons, mad1_t, mad1_o, mad1_f, addAll_nil, addAll_cons, readsLeft_nil, readsLeft_cons, rdl1_t, rdl1_f, readsOk_nil, readsOk_cons, rok1_s, asideOk_nil, asideOk_cons, asd1_n, asd1_s, av_str, av_int, av_bool, av_ptr, av_sl, av_nils, av_nili, av_agg, av_if, avs_nil, avs_cons, Bool.and_self, iA, iR, iW, iI, kk, kkr, hg5, hb5, g5.self, n7, n8]; done) | (simp only [withH_mk, ky_inj, Nat.testBit_eq_decide_div_mod_eq, Nat.reducePow, addMade_nil, addMade_cons, mad1_t, mad1_o, mad1_f, addAll_nil, addAll_cons, readsLeft_nil, readsLeft_cons, rdl1_t, rdl1_f, readsOk_nil, readsOk_cons, rok1_s, asideOk_nil, asideOk_cons, asd1_n, asd1_s, av_str, av_int, av_bool, av_ptr, av_sl, av_nils, av_nili, av_agg, av_if, avs_nil, avs_cons, Bool.and_self, iA, iR, iW, iI, kk, kkr, hg5, hb5, g5.self, n7, n8] <;> rfl)) (by simp only [callOuts, callTo_s, target, evs, Fr.ev, Tget_set, ↓reduceIte, List.nil_append, List.append_nil]; exact kc_miss rfl) ?_ ?_
    · exact ownQ hx5 hn
    intro oo ho
    obtain ⟨x1, h6, rfl, hx6, low56, hs56⟩ := ho p hx5 hn
    have hx6 : PasI (F + 1 + 1 + 1) (F + 1 + 1 + 1 + 1 + 1 + 1 + 1) h6 x1 p := hx6
    have l56 : Low (F + 1 + 1) h5 h6 := low56
    have q6 : ∀ c, c ≤ 1267650600228229401496703205375 → hget h6 (ky F c) = hget h5 (ky F c) := fun c hc => l56.own (by omega) hc
    obtain ⟨ok1, a1, r1, w1, i1, rfl, hA1, hR1, hW1, hI1⟩ := id hx6
    have hg6 : hget h6 kc = some (mkRow [.int .i64 (most : Int), l5, y, n] 0) := (l56 kc (Nat.lt_of_lt_of_le hkc (ky_mono (by omega)))).trans hg5
    have hb6 : hget h6 (ky F 0) = some (mkRow [.int .i64 p.cl, .int .u64 p.tok, .str p.nm, a, .int .i64 p.how, r, w, i] 0) := (q6 0 (by decide)).trans hb5
    have m7 := (q6 31 (by decide)).trans n7
    have m8 := (q6 32 (by decide)).trans n8
    have iA1 := isCell_L hA1.p
    have iR1 := isCell_L hR1.p
    have iW1 := isCell_L hW1.p
    have iI1 := isCell_L hI1.p
    have sA1 := av_self_L hA1.p
    have sR1 := av_self_L hR1.p
    have sW1 := av_self_L hW1.p
    have sI1 := av_self_L hI1.p
    have hcx : allCell [.int .i64 p.cl, .int .u64 p.tok, .str p.nm, a1, .int .i64 p.how, r1, w1, i1] = true := cks_cell ok1
    have g6 : LS true h6 k 8 l5 X5 := g5.move (l56 k (Nat.lt_of_lt_of_le hk (ky_mono (by omega))))
    have g7 : LS true (hset h6 (ky F 31) (mkRow [.int .i64 p.cl, .int .u64 p.tok, .str p.nm, a1, .int .i64 p.how, r1, w1, i1] 8)) k 8 l5 X5 := g6.move (by rw [hget_hset, if_neg (by have := ky_le F 31; omega)])
    obtain ⟨l8, h8, k8, ap1, g8, hk8, mm8⟩ := g7.app1 (P := Tryz.prog) (t := 58) (t2 := 58) (key := ky F 32) (f := F + 1 + 1 + 1 + 1 + 1 + 1 + 1) (x := [.int .i64 p.cl, .int .u64 p.tok, .str p.nm, a1, .int .i64 p.how, r1, w1, i1]) (b := .slice (ky F 31) 0 0 1 (some 1)) Tryz.underlying58 Tryz.underlying58 sz34 by_P zo_P (src_one rfl (by rw [hget_hset, if_pos rfl])) (by decide) rfl hcx (by omega) (by decide)
    have hne8 : ∀ i, i < ky F 0 → keyNe l5 i → hget h8 i = hget h6 i := fun i hi hik => by
      rw [mm8 i (by have := ky_le F 32; omega) hik, hget_hset, if_neg (by have := ky_le F 31; omega)]
    have hg8 : hget h8 kc = some (mkRow [.int .i64 (most : Int), l5, y, n] 0) := (hne8 kc hkc (g7.ne hne)).trans hg6
    have r78 : hget h8 (ky F 31) = some (mkRow [.int .i64 p.cl, .int .u64 p.tok, .str p.nm, a1, .int .i64 p.how, r1, w1, i1] 8) := by
      rw [mm8 _ (by rw [Ne, ky_inj]; decide) (g7.ne (by have := ky_le F 31; omega)), hget_hset, if_pos rfl]
    have hb8 : hget h8 (ky F 0) = some (mkRow [.int .i64 p.cl, .int .u64 p.tok, .str p.nm, a, .int .i64 p.how, r, w, i] 0) := by
      rw [mm8 _ (by rw [Ne, ky_inj]; decide) (g7.ne (by have := ky_le F 0; omega)), hget_hset, if_neg (by rw [ky_inj]; decide)]; exact hb6
    have sl8 := (LO.s (o := true) g8).self
    have il8 := g8.cell
    have xl8 := (LO.s (o := true) g8).cls
    simp only [AV.cells] at xl8
    have len8 := fun (h2 : Heap) => g8.len (h2 := h2) Tryz.underlying58
    have hl8 : (X5 ++ [[.int .i64 p.cl, .int .u64 p.tok, .str p.nm, a1, .int .i64 p.how, r1, w1, i1]]).length ≤ most + 1 := by simp; omega
    have sub8 := intOp_sub (P := Tryz.prog) (t := 3) (show inR (((X5 ++ [[.int .i64 p.cl, .int .u64 p.tok, .str p.nm, a1, .int .i64 p.how, r1, w1, i1]]).length : Int) - (most : Int)) by unfold inR; omega)
    obtain ⟨l9, slF, g9⟩ := g8.from (P := Tryz.prog) (t := 58) (d := (X5 ++ [[.int .i64 p.cl, .int .u64 p.tok, .str p.nm, a1, .int .i64 p.how, r1, w1, i1]]).length - most) Tryz.underlying58 sz34 (by omega)
    have sl9 := (LO.s (o := true) g9).self
    have il9 := g9.cell
    have xl9 := (LO.s (o := true) g9).cls
    simp only [AV.cells] at xl9
    refine ⟨_, by simp only [put_mk, Nat.reduceLT, ↓reduceIte] <;> rfl, ?_, ?_, ?_⟩
    · first | rfl | (simp only [↓reduceIte, Fr.ev, readOp, rLd, rdAB_row, oneCell_one, List.length_cons, List.length_nil, List.drop_zero, List.drop_succ_cons, List.take_succ_cons, List.take_zero, Nat.zero_add, Nat.reduceAdd, Nat.reduceLeDiff, Nat.reduceEqDiff, Nat.reduceSub, loadA_w, loadW_s, decide_true, decide_false, T.get_n, T.set_n, T.set_e, Nat.reduceDiv, Nat.reduceMod, sz58, ag58, Nat.testBit_eq_decide_div_mod_eq, Nat.reducePow, addMade_nil, readsLeft_nil, readsLeft_cons, rdl1_t, rdl1_f, readsOk_nil, readsOk_cons, rok1_s, Bool.and_self, hg6, g5.self] <;> rfl)
    · first | rfl | (simp only [↓reduceIte, wantedA_eq, gBool_t, gBool_f, Bool.not_true, Bool.not_false, Bool.not_not, clsOf, clsCall, newBlk, allocOp, ev_tmp, Fr.ev, evs, evParts, ofV, ofA, ofS, ofSs, ofAs, nVar, AV.cells, rowOf_mk, rowT_mk, mkRowT_0, put_mk, put_none, upd_mk, withH_mk, keyOf_mk, ky_inj, pureOp, readOp, T.get_e, pFA, pFA1, pFA2, rLd, rdAB_row, oneCell_one, someAgg_s, hget_same, hget_hset_ite, pBin, binA, intOp_eql, intOp_neq, intOp_lss, intOp_leq, intOp_gtr, intOp_geq, pPick, List.length_cons, List.length_nil, List.getElem?_cons_zero, List.getElem?_cons_succ, List.drop_zero, List.drop_succ_cons, List.take_succ_cons, List.take_zero, Nat.zero_add, Nat.add_zero, Nat.reduceAdd, Nat.reduceLT, Nat.reduceLeDiff, Nat.reduceEqDiff, Nat.reduceMul, Nat.reduceSub, Nat.succ_eq_add_one, if_true, if_false, true_and, and_true, and_self, List.toList_toArray, Nat.add_eq, Nat.mul_eq, Nat.sub_eq, loadA_w, loadW_a, loadW_s, aSt_w, stOut_s, wrAB_row, ovr, List.set_cons_zero, List.set_cons_succ, allCell, ic_b, ic_i, ic_s, ic_np, ic_p, ic_g, ic_ns, ic_h, ic_sl, ic_nm, ic_m, ic_nf, ic_f, ic_ni, ic_if, pUn_not, callTo_s, heavyCall, target, actOp, pEx, List.nil_append, List.append_nil, pNil, pBuild, pBuild2, fieldsOk, buildParts, List.getElem?_nil, pMkF, binA, eqIn, eqGuardOk, pF, pF1, partA, beq_self_eq_true, bne_self_eq_false, decide_true, decide_false, Int.reduceBEq, Int.reduceBNe, Int.reduceLT, Int.reduceLE, Int.reduceEq, Int.reduceNeg, Int.reduceAdd, Int.reduceSub, Bool.and_true, Bool.true_and, Bool.and_false, Bool.false_and, stepOp, stHeavy, stV_mk, stB_mk, stO_mk, T.get_n, T.set_n, T.set_e, Nat.reduceDiv, Nat.reduceMod, ofNat_z, sz2, ag2, zr2, tg2, Tryz.underlying2, sz3, ag3, zr3, tg3, Tryz.underlying3, sz9, ag9, zr9, tg9, Tryz.underlying9, sz23, ag23, zr23, tg23, Tryz.underlying23, sz24, ag24, zr24, tg24, Tryz.underlying24, sz26, ag26, zr26, tg26, Tryz.underlying26, sz27, ag27, zr27, tg27, Tryz.underlying27, sz29, ag29, zr29, tg29, Tryz.underlying29, sz31, ag31, zr31, tg31, Tryz.underlying31, sz32, ag32, zr32, tg32, Tryz.underlying32, sz34, ag34, zr34, tg34, Tryz.underlying34, sz39, ag39, zr39, tg39, Tryz.underlying39, sz58, ag58, zr58, tg58, Tryz.underlying58, sz64, ag64, zr64, tg64, Tryz.underlying64, sz66, ag66, zr66, tg66, Tryz.underlying66, sz89, ag89, zr89, tg89, Tryz.underlying89, stepAny, wantedA_none, rCall, rLen, rLen1_str, rLen1_sl, lenA, Tget_set, natOf_c, Nat.left_eq_add, Nat.add_eq_left, Nat.testBit_eq_decide_div_mod_eq, Nat.reducePow, addMade_nil, addMade_cons, mad1_t, mad1_o, mad1_f, addAll_nil, addAll_cons, readsLeft_nil, readsLeft_cons, rdl1_t, rdl1_f, readsOk_nil, readsOk_cons, rok1_s, asideOk_nil, asideOk_cons, asd1_n, asd1_s, av_str, av_int, av_bool, av_ptr, av_sl, av_nils, av_nili, av_agg, av_if, avs_nil, avs_cons, Bool.and_self, sA, sR, sW, sI, av_self_slice, g5.self, sA1, sR1, sW1, sI1, sl8, iA, iR, iW, iI, kk, kkr, hge2, hg6, hb6, g5.self, m7, m8, nBS_P1, iA1, iR1, iW1, iI1, aBuiltin, aApp, aApp2, outOf, ap1, hg8, hb8, r78, il8, xl8] <;> rfl)
    repeat' (first | refine st ?_ | ((with_reducible apply (r_drawG (id := 6) (js := [(0, 0), (1, 0), (2, 2), (3, 6), (4, 14), (5, 0), (6, 32), (7, 96), (8, 254), (9, 511), (10, 1023), (11, 2047)]))); (focus kernel_rfl); (focus kernel_rfl); (focus (exact sd1))) | ((with_reducible apply g_end); (focus (simp only [List.length_cons, List.length_nil, Nat.reduceAdd, Nat.zero_add] <;> rfl)); simp only [withH_mk, addAll_nil, addAll_cons, ↓reduceIte, withH_mk, hget_hset_ite, Nat.reduceAdd, Nat.reduceEqDiff, Nat.reduceSub, T.set_n, T.set_e, Nat.reduceDiv, Nat.reduceMod, mad1_o, addAll_nil, addAll_cons, kkr, r78]) | ((with_reducible apply g_undef); (focus rfl); (focus (simp only [↓reduceIte, Nat.reduceEqDiff, Nat.reduceSub, T.set_n, T.set_e, Nat.reduceDiv, Nat.reduceMod, wantedA_none] <;> rfl)); (focus (exact sd6))) | ((with_reducible apply g_pure); (focus rfl); (focus rfl); (focus rfl); (focus (simp only [↓reduceIte, Fr.ev, pureOp, pFA, pFA1, pFA2, List.getElem?_cons_zero, List.getElem?_cons_succ, Nat.zero_add, Nat.reduceEqDiff, Nat.reduceSub, Nat.add_eq, pNil, T.get_n, T.set_n, T.set_e, Nat.reduceDiv, Nat.reduceMod, sz58, Tryz.underlying89] <;> rfl)); (focus (exact sd6))) | ((with_reducible apply g_alloc); (focus rfl); (focus rfl); (focus rfl); (focus (simp only [keyOf_mk] <;> rfl)); (focus (simp only [↓reduceIte, allocOp, Fr.ev, evParts, Nat.reduceAdd, Nat.reduceEqDiff, Nat.reduceSub, T.get_n, T.set_n, T.set_e, Nat.reduceDiv, Nat.reduceMod, Tryz.underlying58, nBS_P1] <;> rfl)); (focus (simp only [Nat.reduceAdd, m7])); (focus (exact sd6))) | ((with_reducible apply g_act); (focus rfl); (focus rfl); (focus rfl); (focus rfl); (focus (simp only [heavy, ↓reduceIte, Fr.ev, AV.cells, withH_mk, keyOf_mk, List.length_cons, List.length_nil, Nat.zero_add, Nat.reduceAdd, Nat.reduceLeDiff, Nat.reduceEqDiff, Nat.reduceSub, and_self, aSt_w, stOut_s, wrAB_row, ovr, List.set_cons_zero, List.set_cons_succ, allCell, heavyCall, actOp, decide_true, T.get_n, T.set_n, T.set_e, Nat.reduceDiv, Nat.reduceMod, sz58, Nat.testBit_eq_decide_div_mod_eq, Nat.reducePow, addMade_nil, addMade_cons, mad1_t, mad1_o, m7, aBuiltin, aApp, aApp2, outOf, ap1, hg8, r78, il8, xl8] <;> rfl)); (focus (exact sd6)); (focus (simp only [↓reduceIte, Nat.reduceAdd, Nat.reduceEqDiff, Nat.reduceSub, decide_true, T.set_n, T.set_e, Nat.reduceDiv, Nat.reduceMod, Nat.testBit_eq_decide_div_mod_eq, Nat.reducePow, readsLeft_nil, readsLeft_cons, rdl1_t, readsOk_nil] <;> rfl)); (focus (simp only [↓reduceIte, hget_same, hget_hset_ite, Nat.reduceAdd, decide_true, Nat.reduceDiv, Nat.reduceMod, Nat.testBit_eq_decide_div_mod_eq, Nat.reducePow, addMade_nil, addMade_cons, mad1_t, mad1_o, asideOk_nil, asideOk_cons, asd1_s, kkr, m7, r78] <;> rfl))))
    repeat' (first | refine st ?_ | ((with_reducible apply (r_drawG (id := 7) (js := [(0, 0), (1, 0), (2, 2), (3, 6), (4, 14), (5, 0), (6, 32), (7, 96), (8, 224), (9, 480), (10, 0), (11, 1024), (12, 3072), (13, 7168), (14, 16352), (15, 32736), (16, 65534), (17, 131071), (18, 262143), (19, 524287)]))); (focus kernel_rfl); (focus kernel_rfl); (focus (exact sd1))) | ((with_reducible apply g_end); (focus (simp only [List.length_cons, List.length_nil, Nat.reduceAdd, Nat.zero_add] <;> rfl)); simp only [withH_mk, addAll_nil, ↓reduceIte, withH_mk, Nat.reduceEqDiff, Nat.reduceSub, T.set_n, T.set_e, Nat.reduceDiv, Nat.reduceMod, addAll_nil]) | ((with_reducible apply g_undef); (focus rfl); (focus (simp only [↓reduceIte, Nat.reduceEqDiff, Nat.reduceSub, T.set_n, T.set_e, Nat.reduceDiv, Nat.reduceMod, wantedA_none] <;> rfl)); (focus (exact sd6))) | ((with_reducible apply g_pure); (focus rfl); (focus rfl); (focus rfl); (focus (simp only [↓reduceIte, Fr.ev, pureOp, pFA, pFA1, pFA2, pBin, binA, List.getElem?_cons_zero, List.getElem?_cons_succ, Nat.zero_add, Nat.add_zero, Nat.reduceEqDiff, Nat.reduceSub, Nat.add_eq, pNil, binA, T.get_n, T.set_n, T.set_e, Nat.reduceDiv, Nat.reduceMod, sz3, sz58, Tryz.underlying89, sub8] <;> rfl)); (focus (exact sd6))) | ((with_reducible apply g_read); (focus rfl); (focus rfl); (focus rfl); (focus (simp only [↓reduceIte, Fr.ev, readOp, rLd, rdAB_row, oneCell_one, hget_same, List.length_cons, List.length_nil, List.getElem?_cons_zero, List.drop_zero, List.drop_succ_cons, List.take_succ_cons, List.take_zero, Nat.zero_add, Nat.reduceAdd, Nat.reduceLeDiff, Nat.reduceEqDiff, Nat.reduceSub, loadA_w, loadW_s, T.get_n, T.set_n, T.set_e, Nat.reduceDiv, Nat.reduceMod, sz3, ag3, sz58, ag58, rCall, rLen, addMade_nil, len8, slF, rSl, pSlice, Go.Ai.evO] <;> rfl)); (focus (exact sd6))) | ((with_reducible apply g_act); (focus rfl); (focus rfl); (focus rfl); (focus rfl); (focus (simp only [heavy, ↓reduceIte, Fr.ev, evs, ofV, ofA, ofS, AV.cells, withH_mk, hget_same, List.length_cons, List.length_nil, Nat.zero_add, Nat.reduceAdd, Nat.reduceLeDiff, Nat.reduceEqDiff, Nat.reduceSub, and_self, aSt_w, stOut_s, wrAB_row, ovr, List.set_cons_zero, List.set_cons_succ, allCell, heavyCall, actOp, T.get_n, T.set_n, T.set_e, Nat.reduceDiv, Nat.reduceMod, sz58, addMade_nil, aMx_sub, aBuiltin, il9, xl9] <;> rfl)); (focus (exact sd6)); (focus (simp only [↓reduceIte, Fr.ev, readOp, rLd, rdAB_row, oneCell_one, hget_same, List.length_cons, List.length_nil, List.drop_zero, List.drop_succ_cons, List.take_succ_cons, List.take_zero, Nat.zero_add, Nat.reduceAdd, Nat.reduceLeDiff, Nat.reduceEqDiff, Nat.reduceSub, loadA_w, loadW_s, decide_true, decide_false, T.get_n, T.set_n, T.set_e, Nat.reduceDiv, Nat.reduceMod, sz58, ag58, Nat.testBit_eq_decide_div_mod_eq, Nat.reducePow, addMade_nil, readsLeft_nil, readsLeft_cons, rdl1_t, rdl1_f, readsOk_nil, readsOk_cons, rok1_s, Bool.and_self, sl8] <;> rfl)); (focus (simp only [addMade_nil, asideOk_nil] <;> rfl))) | ((with_reducible apply r_drawL); (focus kernel_rfl); (focus kernel_rfl); (focus (exact sd1))) | ((with_reducible (first | apply r_any | apply r_cond)); focus (simp only [↓reduceIte, clsOf, Fr.ev, ofV, ofA, ofS, put_mk, pureOp, pBin, binA, intOp_geq, Nat.reduceLT, Nat.reduceEqDiff, Nat.reduceSub, binA, stepOp, stV_mk, T.get_n, T.set_n, T.set_e, Nat.reduceDiv, Nat.reduceMod, stepAny, wantedA_none, hge2] <;> rfl)))
    subst hQ
    refine ret_back (by simp only [Tryz.results10, resultOf, resultsA, resultA, List.toList_toArray, Fr.ev, Tget_set, ↓reduceIte] <;> rfl) ?_
    have hk8' : k8 ≠ kc := by
      rcases hk8 with e | ⟨e, _⟩
      · rw [e]; have := ky_le F 32; omega
      · rw [e]; exact Ne.symm hne
    refine ⟨l9, _, k8, [.int .i64 p.cl, .int .u64 p.tok, .str p.nm, a1, .int .i64 p.how, r1, w1, i1], F + 1 + 1, _, out_eq (by rw [dec_t (p := (some T0.length : Option Nat) ≠ none) (by simp)]), by omega, rfl, by omega, by rw [hget_hset, if_pos rfl], ?_, ?_, ?_, fun i hi hik hil => ?_⟩
    · rw [show putX most (T0 ++ xd :: D) (some T0.length) [.int .i64 p.cl, .int .u64 p.tok, .str p.nm, a1, .int .i64 p.how, r1, w1, i1] = (X5 ++ [[.int .i64 p.cl, .int .u64 p.tok, .str p.nm, a1, .int .i64 p.how, r1, w1, i1]]).drop ((X5 ++ [[.int .i64 p.cl, .int .u64 p.tok, .str p.nm, a1, .int .i64 p.how, r1, w1, i1]]).length - most) from by rw [eX5, ← eEr]; rfl]
      exact (LO.s (g9.move (by rw [hget_hset, if_neg hk8', hget_hset, if_neg hk8'])))
    · rcases hk8 with e | ⟨e, g5'⟩
      · exact .inr ⟨by rw [e]; exact ky_le F 32, by rw [e]; exact ky_next F 32 (by decide)⟩
      · exact .inl ⟨e, gLO.key⟩
    · refine hx6.move (fun b h1 h2 => ?_)
      have y1 : ky (F + 1) 0 ≤ ky (F + 1 + 1 + 1) 0 := ky_mono (by omega)
      have y7 := ky_next F 31 (by decide)
      have y8 := ky_next F 32 (by decide)
      have y0 := ky_mono (show F ≤ F + 1 by omega)
      rw [hget_hset, if_neg (by omega), hget_hset, if_neg (by omega), mm8 b (by omega) (g7.ne (by omega)), hget_hset, if_neg (by omega)]
    · have y0 := ky_mono (show F ≤ F + 1 + 1 by omega)
      rw [hget_hset, if_neg hik, hget_hset, if_neg hik, hne8 i hi (g7.ne (gLO.ne hil)), l56 i (by omega)]
      rw [e5, hget_hset, if_neg hik, lk2 i (Nat.lt_of_lt_of_le hi (ky_mono (Nat.le_succ F))) (gLO.ne hil), L1 i hi]; exact hlow0 i hi

end Go.Proofs.YtmnhaoadhkdinaaGreatDoor

