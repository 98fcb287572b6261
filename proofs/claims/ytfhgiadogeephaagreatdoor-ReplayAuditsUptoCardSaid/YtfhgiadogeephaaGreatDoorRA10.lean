/- A part of the proof of the law ReplayAudits. CONDITIONS: those that each theorem names. -/
import Derived.Test.YtfhgiadogeephaaGreatDoorPartA
import Derived.Test.YtfhgiadogeephaaGreatDoorRA7
import Derived.Test.YtfhgiadogeephaaGreatDoorPartB
namespace Go.Proofs.YtfhgiadogeephaaGreatDoor
open Go Go.Ai
set_option maxRecDepth 100000

set_option maxHeartbeats 16000000 in
theorem ruleA (h : Heap) (F : Nat) (kk : Nat) (s1 s2 s3 s4 s5 l : AV) (b : Bk) (x q f : Int) (R W : List (List Tx)) (w : Nat) (hk : kk < ky F 0) (hg : hget h kk = some (mkRow [s1, s2, s3, s4, s5] 0)) (g1 : RowB h F s1 (ints b.ph)) (g2 : RowB h F s2 (ints b.hs)) (g3 : RowB h F s3 (bools b.fu)) (g4 : RowB h F s4 (bools b.ta)) (g5 : RowB h F s5 (bools b.re)) (gd : Gd w R.length b) (hL : EntP h l R W) (hn : R.length ≤ 100) (hb : ∀ i, (atL R i).length + (atL W i).length ≤ 100000) :
    Snd Tryz.prog [] 37 [.ptr kk 0, l, .agg [.int .i64 x, .int .i64 q, .int .i64 f]] ⟨h, F⟩ [.val (.int .i64 (ruleB R W b ⟨x, q, f⟩)) ⟨h, F⟩] := by
  refine snd_val (by simp [Kin]) fun hw => ?_
  have mxl : maxLen = 9223372036854775807 := by decide
  have l1 := fun (h2 : Heap) => g1.len (h2 := h2) Tryz.underlying84
  simp only [ints_len] at l1
  have lL := fun (h2 : Heap) => hL.len (h2 := h2)
  have kko := fun (a : Nat) => ky_old (a := a) hk
  obtain ⟨x1, z1⟩ : ∃ v, decide (x < 0) = v := ⟨_, rfl⟩
  obtain ⟨x2, z2⟩ : ∃ v, decide ((b.ph.length : Int) ≤ x) = v := ⟨_, rfl⟩
  obtain ⟨x3, z3⟩ : ∃ v, decide (q < 0) = v := ⟨_, rfl⟩
  obtain ⟨x4, z4⟩ : ∃ v, decide ((R.length : Int) ≤ q) = v := ⟨_, rfl⟩
  obtain ⟨x5, z5⟩ : ∃ v, decide (f < 0) = v := ⟨_, rfl⟩
  obtain ⟨x6, z6⟩ : ∃ v, decide (4 < f) = v := ⟨_, rfl⟩
  by_cases hsix : six R b x q f
  · have hr := rl1 (W := W) hsix
    have hc : x1 = true ∨ (x1 = false ∧ x2 = true) ∨ (x1 = false ∧ x2 = false ∧ x3 = true) ∨ (x1 = false ∧ x2 = false ∧ x3 = false ∧ x4 = true) ∨ (x1 = false ∧ x2 = false ∧ x3 = false ∧ x4 = false ∧ x5 = true) ∨ (x1 = false ∧ x2 = false ∧ x3 = false ∧ x4 = false ∧ x5 = false ∧ x6 = true) := by
      rw [← z1, ← z2, ← z3, ← z4, ← z5, ← z6]
      simp only [decide_eq_true_eq, decide_eq_false_iff_not]
      unfold six at hsix
      omega
    rcases hc with rfl | ⟨rfl, rfl⟩ | ⟨rfl, rfl, rfl⟩ | ⟨rfl, rfl, rfl, rfl⟩ | ⟨rfl, rfl, rfl, rfl, rfl⟩ | ⟨rfl, rfl, rfl, rfl, rfl, rfl⟩
    all_goals
      refine sndQ_body (K := (KA A0)) ka_ok mixed noNum (m := 0) Tryz.func37 ?_
      generalize hQ : retQ _ _ _ _ _ _ = Q0
      refine body_go (c := Tryz.f37.body.getD .skip) (n := 134) rfl rfl (by simp only [↓reduceIte, T.setList, T.set_e, T.set_n, Nat.reduceDiv, Nat.reduceMod, Nat.reduceEqDiff, Nat.reduceSub, Nat.reduceAdd, Nat.zero_add] <;> rfl) ?_
      simp only [Tryz.f37, Option.getD_some]
      repeat' (first | refine st ?_ | ((with_reducible apply (r_drawW (id := 1) (js := [0, 1, 2, 3, 4, 5, 6, 7, 8, 9, 10, 11, 12, 13, 14, 15, 16, 17, 18, 19, 20, 21, 22, 23, 24, 25, 26, 27, 28, 29, 30, 31, 32, 33, 34]))); (focus kernel_rfl); (focus kernel_rfl); (focus (exact sd1))) | ((with_reducible apply d_end); (focus (simp only [List.length_cons, List.length_nil, Nat.reduceAdd, Nat.zero_add] <;> rfl))) | ((with_reducible apply d_any); (focus rfl); (iterate 2 (focus (simp only [↓reduceIte, wantedA_eq, gBool_f, Bool.not_true, Bool.not_false, clsOf, clsCall, Fr.ev, ofV, ofA, ofS, put_mk, pureOp, readOp, pFA, pFA1, pFA2, rLd, rdAB_row, oneCell_one, hget_same, hget_hset_ite, pBin, binA, intOp_lss, intOp_gtr, intOp_geq, pPick, List.length_cons, List.length_nil, List.getElem?_cons_zero, List.getElem?_cons_succ, List.drop_zero, List.drop_succ_cons, List.take_succ_cons, List.take_zero, Nat.zero_add, Nat.add_zero, Nat.reduceAdd, Nat.reduceLT, Nat.reduceLeDiff, Nat.reduceEqDiff, Nat.reduceSub, Nat.add_eq, loadA_w, loadW_s, pNil, binA, stepOp, stV_mk, T.get_n, T.set_n, T.set_e, Nat.reduceDiv, Nat.reduceMod, sz2, ag2, sz3, ag3, sz84, ag84, Tryz.underlying89, Tryz.underlying98, stepAny, wantedA_none, readSelf, av_int, rCall, rLen, hg, kko, l1, lL, z1, z2, z3, z4, z5, z6, g1.self] <;> rfl))); (focus (first | exact SameH.refl _ | (simp only [sameT, sameS hw]; done)))) | ((with_reducible apply r_drawL); (focus kernel_rfl); (focus kernel_rfl); (focus (exact sd1))) | ((with_reducible (first | apply r_any | apply r_cond)); focus (simp only [↓reduceIte, clsOf, newBlk, allocOp, Fr.ev, ofV, ofA, ofS, nVar, AV.cells, rowOf_mk, put_mk, upd_mk, keyOf_mk, pureOp, Nat.add_zero, Nat.reduceLT, Nat.reduceEqDiff, Nat.reduceSub, stepOp, stV_mk, stB_mk, T.get_n, T.set_n, T.set_e, Nat.reduceDiv, Nat.reduceMod, stepAny, wantedA_none] <;> rfl)))
      subst hQ
      refine ret_back (by simp only [Tryz.results37, resultOf, resultsA, resultA, List.toList_toArray, Fr.ev, T.get_n, Nat.reduceDiv, Nat.reduceMod, Nat.reduceSub, Nat.reduceEqDiff, ↓reduceIte] <;> rfl) ?_
      exact ⟨_, out_eq (by rw [hr]), by repeat (first | exact Same.base _ _ _ | refine Same.hset hw ?_ (ky_le _ _))⟩
  have hz : x1 = false ∧ x2 = false ∧ x3 = false ∧ x4 = false ∧ x5 = false ∧ x6 = false := by
    rw [← z1, ← z2, ← z3, ← z4, ← z5, ← z6]
    simp only [decide_eq_false_iff_not]
    unfold six at hsix
    omega
  obtain ⟨rfl, rfl, rfl, rfl, rfl, rfl⟩ := hz
  obtain ⟨j, rfl⟩ : ∃ j : Nat, x = j := ⟨x.toNat, by unfold six at hsix; omega⟩
  obtain ⟨s, rfl⟩ : ∃ s : Nat, q = s := ⟨q.toNat, by unfold six at hsix; omega⟩
  have hj : j < b.ph.length := by unfold six at hsix; omega
  have hsR : s < R.length := by unfold six at hsix; omega
  have hj2 : j < b.hs.length := by rw [gd.hs, ← gd.ph]; exact hj
  obtain ⟨p, hp⟩ : ∃ p, b.ph[j]? = some p := ⟨_, List.getElem?_eq_getElem hj⟩
  obtain ⟨e, he⟩ : ∃ e, b.hs[j]? = some e := ⟨_, List.getElem?_eq_getElem hj2⟩
  have hap := atI_of hp
  have hae := atI_of he
  have p4 := gd.p4 p (List.mem_of_getElem? hp)
  obtain ⟨k1, eo1, cap1, hk1, rfl, r1⟩ := g1.pos (by rw [ints_len]; omega)
  obtain ⟨k2, eo2, cap2, hk2, rfl, r2⟩ := g2.pos (by rw [ints_len]; omega)
  simp only [ints_len] at hg l1
  have q1 := rd_a (ints_at hp)
  have q2 := rd_a (ints_at he)
  have ar := intOp_add (P := Tryz.prog) (t := 3) (show inR (p + 1) by unfold inR; omega)
  have rm := intOp_remI (P := Tryz.prog) (t := 3) (a := p + 1) (b := 5) (by omega) (by decide)
  obtain ⟨y1, v1⟩ : ∃ v, (f != (p + 1) % 5) = v := ⟨_, rfl⟩
  obtain ⟨y2, v2⟩ : ∃ v, (p != 0) = v := ⟨_, rfl⟩
  obtain ⟨y3, v3⟩ : ∃ v, (e != (s : Int)) = v := ⟨_, rfl⟩
  by_cases h2 : two b (j : Int) s f
  · have hr := rl2 (W := W) hsix h2
    have t1 : True := trivial
    have hc : y1 = true ∨ (y1 = false ∧ y2 = true ∧ y3 = true) := by
      rw [← v1, ← v2, ← v3]
      simp only [bne_iff_ne, bne_eq_false_iff_eq]
      unfold two at h2
      rw [hap, hae] at h2
      omega
    rcases hc with rfl | ⟨rfl, rfl, rfl⟩
    all_goals
      refine sndQ_body (K := (KA A0)) ka_ok mixed noNum (m := 0) Tryz.func37 ?_
      generalize hQ : retQ _ _ _ _ _ _ = Q0
      refine body_go (c := Tryz.f37.body.getD .skip) (n := 134) rfl rfl (by simp only [↓reduceIte, T.setList, T.set_e, T.set_n, Nat.reduceDiv, Nat.reduceMod, Nat.reduceEqDiff, Nat.reduceSub, Nat.reduceAdd, Nat.zero_add] <;> rfl) ?_
      simp only [Tryz.f37, Option.getD_some]
      repeat' (first | refine st ?_ | ((with_reducible apply (r_drawW (id := 1) (js := [0, 1, 2, 3, 4, 5, 6, 7, 8, 9, 10, 11, 12, 13, 14, 15, 16, 17, 18, 19, 20, 21, 22, 23, 24, 25, 26, 27, 28, 29, 30, 31, 32, 33, 34]))); (focus kernel_rfl); (focus kernel_rfl); (focus (exact sd1))) | ((with_reducible apply d_end); (focus (simp only [List.length_cons, List.length_nil, Nat.reduceAdd, Nat.zero_add] <;> rfl))) | ((with_reducible apply d_any); (focus rfl); (iterate 2 (focus (simp only [↓reduceIte, wantedA_eq, gBool_t, gBool_f, Bool.not_true, Bool.not_false, clsOf, clsCall, Fr.ev, ofV, ofA, ofS, put_mk, pureOp, readOp, pFA, pFA1, pFA2, rLd, rdAB_row, oneCell_one, hget_same, hget_hset_ite, pBin, binA, intOp_neq, intOp_lss, intOp_gtr, intOp_geq, pPick, List.length_cons, List.length_nil, List.getElem?_cons_zero, List.getElem?_cons_succ, List.drop_zero, List.drop_succ_cons, List.take_succ_cons, List.take_zero, Nat.zero_add, Nat.add_zero, Nat.reduceAdd, Nat.reduceLT, Nat.reduceLeDiff, Nat.reduceEqDiff, Nat.reduceSub, Nat.add_eq, loadA_w, loadW_s, pNil, binA, stepOp, stV_mk, T.get_n, T.set_n, T.set_e, Nat.reduceDiv, Nat.reduceMod, sz2, ag2, sz3, ag3, sz38, ag38, sz84, ag84, Tryz.underlying89, Tryz.underlying98, stepAny, wantedA_none, readSelf, av_int, av_sl, rCall, rLen, hg, kko, l1, lL, z1, z2, z3, z4, z5, z6, gBool_u, pIA_s Tryz.underlying84 sz3 hj, pIA_s Tryz.underlying38 sz2 hj2, r1, r2, q1, q2, ky_old hk1, ky_old hk2, ar, rm, v1, v2, v3] <;> rfl))); (focus (first | exact SameH.refl _ | (simp only [sameT, sameS hw]; done)))) | ((with_reducible apply (r_drawW (id := 3) (js := [0, 1, 2, 3, 4, 5, 6, 7, 8]))); (focus kernel_rfl); (focus kernel_rfl); (focus (exact sd1))) | ((with_reducible apply d_end); (focus (simp only [List.length_cons, List.length_nil, Nat.add_assoc, Nat.reduceAdd, Nat.zero_add] <;> rfl))) | ((with_reducible apply (r_drawW (id := 4) (js := [0, 1, 2, 3, 4, 5, 6, 7, 8, 9, 10, 11, 12, 13, 14, 15, 16, 17, 18, 19, 20, 21, 22]))); (focus kernel_rfl); (focus kernel_rfl); (focus (exact sd1))) | ((with_reducible apply d_end); (focus (simp only [List.length_cons, List.length_nil, Nat.add_assoc, Nat.reduceAdd, Nat.zero_add] <;> rfl))) | ((with_reducible apply r_drawL); (focus kernel_rfl); (focus kernel_rfl); (focus (exact sd1))) | ((with_reducible (first | apply r_any | apply r_cond)); focus (simp only [↓reduceIte, clsOf, newBlk, allocOp, Fr.ev, ofV, ofA, ofS, nVar, AV.cells, rowOf_mk, put_mk, upd_mk, keyOf_mk, pureOp, Nat.add_zero, Nat.reduceLT, Nat.reduceEqDiff, Nat.reduceSub, stepOp, stV_mk, stB_mk, T.get_n, T.set_n, T.set_e, Nat.reduceDiv, Nat.reduceMod, stepAny, wantedA_none] <;> rfl)))
      subst hQ
      refine ret_back (by simp only [Tryz.results37, resultOf, resultsA, resultA, List.toList_toArray, Fr.ev, T.get_n, Nat.reduceDiv, Nat.reduceMod, Nat.reduceSub, Nat.reduceEqDiff, ↓reduceIte] <;> rfl) ?_
      exact ⟨_, out_eq (by rw [hr]), by repeat (first | exact Same.base _ _ _ | refine Same.hset hw ?_ (ky_le _ _))⟩
  have hc : y1 = false ∧ (y2 = false ∨ (y2 = true ∧ y3 = false)) := by
    rw [← v1, ← v2, ← v3]
    simp only [bne_iff_ne, bne_eq_false_iff_eq]
    unfold two at h2
    rw [hap, hae] at h2
    omega
  obtain ⟨rfl, hc⟩ := hc
  by_cases h3 : f = 1
  rotate_left
  · have hr := rl0 (W := W) hsix h2 h3
    have t1 : (f != 1) = true := bne_iff_ne.2 h3
    rcases hc with rfl | ⟨rfl, rfl⟩
    all_goals
      refine sndQ_body (K := (KA A0)) ka_ok mixed noNum (m := 0) Tryz.func37 ?_
      generalize hQ : retQ _ _ _ _ _ _ = Q0
      refine body_go (c := Tryz.f37.body.getD .skip) (n := 134) rfl rfl (by simp only [↓reduceIte, T.setList, T.set_e, T.set_n, Nat.reduceDiv, Nat.reduceMod, Nat.reduceEqDiff, Nat.reduceSub, Nat.reduceAdd, Nat.zero_add] <;> rfl) ?_
      simp only [Tryz.f37, Option.getD_some]
      repeat' (first | refine st ?_ | ((with_reducible apply (r_drawW (id := 1) (js := [0, 1, 2, 3, 4, 5, 6, 7, 8, 9, 10, 11, 12, 13, 14, 15, 16, 17, 18, 19, 20, 21, 22, 23, 24, 25, 26, 27, 28, 29, 30, 31, 32, 33, 34]))); (focus kernel_rfl); (focus kernel_rfl); (focus (exact sd1))) | ((with_reducible apply d_end); (focus (simp only [List.length_cons, List.length_nil, Nat.reduceAdd, Nat.zero_add] <;> rfl))) | ((with_reducible apply d_any); (focus rfl); (iterate 2 (focus (simp only [↓reduceIte, wantedA_eq, gBool_t, gBool_f, Bool.not_false, clsOf, clsCall, Fr.ev, ofV, ofA, ofS, put_mk, pureOp, readOp, pFA, pFA1, pFA2, rLd, rdAB_row, oneCell_one, hget_same, hget_hset_ite, pBin, binA, intOp_neq, intOp_lss, intOp_gtr, intOp_geq, pPick, List.length_cons, List.length_nil, List.getElem?_cons_zero, List.getElem?_cons_succ, List.drop_zero, List.drop_succ_cons, List.take_succ_cons, List.take_zero, Nat.zero_add, Nat.add_zero, Nat.reduceAdd, Nat.reduceLT, Nat.reduceLeDiff, Nat.reduceEqDiff, Nat.reduceSub, Nat.add_eq, loadA_w, loadW_s, pNil, binA, stepOp, stV_mk, T.get_n, T.set_n, T.set_e, Nat.reduceDiv, Nat.reduceMod, sz2, ag2, sz3, ag3, sz38, ag38, sz84, ag84, Tryz.underlying89, Tryz.underlying98, stepAny, wantedA_none, readSelf, av_int, av_sl, rCall, rLen, hg, kko, l1, lL, z1, z2, z3, z4, z5, z6, pIA_s Tryz.underlying84 sz3 hj, pIA_s Tryz.underlying38 sz2 hj2, r1, r2, q1, q2, ky_old hk1, ky_old hk2, ar, rm, v1, v2, v3] <;> rfl))); (focus (first | exact SameH.refl _ | (simp only [sameT, sameS hw]; done)))) | ((with_reducible apply (r_drawW (id := 3) (js := [0, 1, 2, 3, 4, 5, 6, 7, 8]))); (focus kernel_rfl); (focus kernel_rfl); (focus (exact sd1))) | ((with_reducible apply d_end); (focus (simp only [List.length_cons, List.length_nil, Nat.add_assoc, Nat.reduceAdd, Nat.zero_add] <;> rfl))) | ((with_reducible apply (r_drawW (id := 4) (js := [0, 1, 2, 3, 4, 5, 6, 7, 8, 9, 10, 11, 12, 13, 14, 15, 16, 17, 18, 19, 20, 21, 22]))); (focus kernel_rfl); (focus kernel_rfl); (focus (exact sd1))) | ((with_reducible apply d_end); (focus (simp only [List.length_cons, List.length_nil, Nat.add_assoc, Nat.reduceAdd, Nat.zero_add] <;> rfl))) | ((with_reducible apply r_drawL); (focus kernel_rfl); (focus kernel_rfl); (focus (exact sd1))) | ((with_reducible (first | apply r_any | apply r_cond)); focus (simp only [↓reduceIte, clsOf, newBlk, allocOp, Fr.ev, ofV, ofA, ofS, nVar, AV.cells, rowOf_mk, put_mk, upd_mk, keyOf_mk, pureOp, readOp, pFA, pFA1, pFA2, rLd, rdAB_row, oneCell_one, hget_same, pBin, binA, intOp_neq, List.length_cons, List.length_nil, List.getElem?_cons_zero, List.getElem?_cons_succ, List.drop_zero, List.drop_succ_cons, List.take_succ_cons, List.take_zero, Nat.zero_add, Nat.add_zero, Nat.reduceAdd, Nat.reduceLT, Nat.reduceLeDiff, Nat.reduceEqDiff, Nat.reduceSub, Nat.add_eq, loadA_w, loadW_s, binA, stepOp, stV_mk, stB_mk, T.get_n, T.set_n, T.set_e, Nat.reduceDiv, Nat.reduceMod, sz3, ag3, Tryz.underlying89, stepAny, wantedA_none, t1] <;> rfl)))
      subst hQ
      refine ret_back (by simp only [Tryz.results37, resultOf, resultsA, resultA, List.toList_toArray, Fr.ev, T.get_n, Nat.reduceDiv, Nat.reduceMod, Nat.reduceSub, Nat.reduceEqDiff, ↓reduceIte] <;> rfl) ?_
      exact ⟨_, out_eq (by rw [hr]), by repeat (first | exact Same.base _ _ _ | refine Same.hset hw ?_ (ky_le _ _))⟩
  subst h3
  have t1 : True := trivial
  have hs3 : s < b.fu.length := by rw [gd.fu]; exact hsR
  have hs4 : s < b.ta.length := by rw [gd.ta]; exact hsR
  obtain ⟨k3, eo3, cap3, hk3, rfl, r3⟩ := g3.pos (by rw [bools_len]; omega)
  obtain ⟨k4, eo4, cap4, hk4, rfl, r4⟩ := g4.pos (by rw [bools_len]; omega)
  obtain ⟨k5, eo5, cap5, hk5, rfl, r5⟩ := g5.pos (by rw [bools_len, gd.re]; omega)
  simp only [bools_len] at hg
  obtain ⟨vf, hf⟩ : ∃ v, b.fu[s]? = some v := ⟨_, List.getElem?_eq_getElem hs3⟩
  obtain ⟨vt, ht⟩ : ∃ v, b.ta[s]? = some v := ⟨_, List.getElem?_eq_getElem hs4⟩
  have q3 := rd_a (bools_get hf)
  have q4 := rd_a (bools_get ht)
  have hSB : SameH h (hset h (ky F 0) (mkRow [.int .i64 (j : Int), .int .i64 (s : Int), .int .i64 1] 0)) := ((Low.refl F h).set (Nat.le_refl F)).same hw
  cases vf with
  | true =>
    have hr := (rlt (R := R) (W := W) hsix h2 rfl).trans (tk3 (atB_of hf))
    rcases hc with rfl | ⟨rfl, rfl⟩
    all_goals
      refine sndQ_body (K := (KA A0)) ka_ok mixed noNum (m := 0) Tryz.func37 ?_
      generalize hQ : retQ _ _ _ _ _ _ = Q0
      refine body_go (c := Tryz.f37.body.getD .skip) (n := 134) rfl rfl (by simp only [↓reduceIte, T.setList, T.set_e, T.set_n, Nat.reduceDiv, Nat.reduceMod, Nat.reduceEqDiff, Nat.reduceSub, Nat.reduceAdd, Nat.zero_add] <;> rfl) ?_
      simp only [Tryz.f37, Option.getD_some]
      repeat' (first | refine st ?_ | ((with_reducible apply (r_drawW (id := 1) (js := [0, 1, 2, 3, 4, 5, 6, 7, 8, 9, 10, 11, 12, 13, 14, 15, 16, 17, 18, 19, 20, 21, 22, 23, 24, 25, 26, 27, 28, 29, 30, 31, 32, 33, 34]))); (focus kernel_rfl); (focus kernel_rfl); (focus (exact sd1))) | ((with_reducible apply d_end); (focus (simp only [List.length_cons, List.length_nil, Nat.reduceAdd, Nat.zero_add] <;> rfl))) | ((with_reducible apply d_any); (focus rfl); (iterate 2 (focus (simp only [↓reduceIte, wantedA_eq, gBool_t, gBool_f, Bool.not_false, clsOf, clsCall, Fr.ev, ofV, ofA, ofS, put_mk, pureOp, readOp, pFA, pFA1, pFA2, rLd, rdAB_row, oneCell_one, hget_same, hget_hset_ite, pBin, binA, intOp_neq, intOp_lss, intOp_gtr, intOp_geq, pPick, List.length_cons, List.length_nil, List.getElem?_cons_zero, List.getElem?_cons_succ, List.drop_zero, List.drop_succ_cons, List.take_succ_cons, List.take_zero, Nat.zero_add, Nat.add_zero, Nat.reduceAdd, Nat.reduceLT, Nat.reduceLeDiff, Nat.reduceEqDiff, Nat.reduceSub, Nat.add_eq, loadA_w, loadW_s, pNil, binA, decide_false, Int.reduceLT, stepOp, stV_mk, T.get_n, T.set_n, T.set_e, Nat.reduceDiv, Nat.reduceMod, sz2, ag2, sz3, ag3, sz4, ag4, sz38, ag38, sz83, ag83, sz84, ag84, Tryz.underlying89, Tryz.underlying98, stepAny, wantedA_none, readSelf, av_int, av_bool, av_sl, rCall, rLen, hg, kko, l1, lL, z1, z2, z3, z4, pIA_s Tryz.underlying84 sz3 hj, pIA_s Tryz.underlying38 sz2 hj2, r1, r2, q1, q2, ky_old hk1, ky_old hk2, ar, rm, v1, v2, v3, pIA_s Tryz.underlying83 sz4 hs3, r3, q3, ky_old hk3] <;> rfl))); (focus (first | exact SameH.refl _ | (simp only [sameT, sameS hw]; done)))) | ((with_reducible apply (r_drawW (id := 3) (js := [0, 1, 2, 3, 4, 5, 6, 7, 8]))); (focus kernel_rfl); (focus kernel_rfl); (focus (exact sd1))) | ((with_reducible apply d_end); (focus (simp only [List.length_cons, List.length_nil, Nat.add_assoc, Nat.reduceAdd, Nat.zero_add] <;> rfl))) | ((with_reducible apply (r_drawW (id := 4) (js := [0, 1, 2, 3, 4, 5, 6, 7, 8, 9, 10, 11, 12, 13, 14, 15, 16, 17, 18, 19, 20, 21, 22]))); (focus kernel_rfl); (focus kernel_rfl); (focus (exact sd1))) | ((with_reducible apply d_end); (focus (simp only [List.length_cons, List.length_nil, Nat.add_assoc, Nat.reduceAdd, Nat.zero_add] <;> rfl))) | ((with_reducible apply (r_drawW (id := 8) (js := [0, 1, 2, 3, 4, 5, 6, 7]))); (focus kernel_rfl); (focus kernel_rfl); (focus (exact sd1))) | ((with_reducible apply d_end); (focus (simp only [List.length_cons, List.length_nil, Nat.add_assoc, Nat.reduceAdd, Nat.zero_add] <;> rfl))) | ((with_reducible apply r_drawL); (focus kernel_rfl); (focus kernel_rfl); (focus (exact sd1))) | ((with_reducible (first | apply r_any | apply r_cond)); focus (simp only [↓reduceIte, clsOf, newBlk, allocOp, Fr.ev, ofV, ofA, ofS, nVar, AV.cells, rowOf_mk, put_mk, upd_mk, keyOf_mk, pureOp, readOp, pFA, pFA1, pFA2, rLd, rdAB_row, oneCell_one, hget_same, pBin, binA, intOp_neq, List.length_cons, List.length_nil, List.getElem?_cons_zero, List.getElem?_cons_succ, List.drop_zero, List.drop_succ_cons, List.take_succ_cons, List.take_zero, Nat.zero_add, Nat.add_zero, Nat.reduceAdd, Nat.reduceLT, Nat.reduceLeDiff, Nat.reduceEqDiff, Nat.reduceSub, Nat.add_eq, loadA_w, loadW_s, binA, bne_self_eq_false, stepOp, stV_mk, stB_mk, T.get_n, T.set_n, T.set_e, Nat.reduceDiv, Nat.reduceMod, sz3, ag3, Tryz.underlying89, stepAny, wantedA_none] <;> rfl)))
      subst hQ
      refine ret_back (by simp only [Tryz.results37, resultOf, resultsA, resultA, List.toList_toArray, Fr.ev, T.get_n, Nat.reduceDiv, Nat.reduceMod, Nat.reduceSub, Nat.reduceEqDiff, ↓reduceIte] <;> rfl) ?_
      exact ⟨_, out_eq (by rw [hr]), by repeat (first | exact Same.base _ _ _ | refine Same.hset hw ?_ (ky_le _ _))⟩
  | false =>
    cases vt with
    | true =>
      have hr := (rlt (R := R) (W := W) hsix h2 rfl).trans (tk4 (atB_of hf) (atB_of ht))
      rcases hc with rfl | ⟨rfl, rfl⟩
      all_goals
        refine sndQ_body (K := (KA A0)) ka_ok mixed noNum (m := 0) Tryz.func37 ?_
        generalize hQ : retQ _ _ _ _ _ _ = Q0
        refine body_go (c := Tryz.f37.body.getD .skip) (n := 134) rfl rfl (by simp only [↓reduceIte, T.setList, T.set_e, T.set_n, Nat.reduceDiv, Nat.reduceMod, Nat.reduceEqDiff, Nat.reduceSub, Nat.reduceAdd, Nat.zero_add] <;> rfl) ?_
        simp only [Tryz.f37, Option.getD_some]
        repeat' (first | refine st ?_ | ((with_reducible apply (r_drawW (id := 1) (js := [0, 1, 2, 3, 4, 5, 6, 7, 8, 9, 10, 11, 12, 13, 14, 15, 16, 17, 18, 19, 20, 21, 22, 23, 24, 25, 26, 27, 28, 29, 30, 31, 32, 33, 34]))); (focus kernel_rfl); (focus kernel_rfl); (focus (exact sd1))) | ((with_reducible apply d_end); (focus (simp only [List.length_cons, List.length_nil, Nat.reduceAdd, Nat.zero_add] <;> rfl))) | ((with_reducible apply d_any); (focus rfl); (iterate 2 (focus (simp only [↓reduceIte, wantedA_eq, gBool_t, gBool_f, Bool.not_false, clsOf, clsCall, Fr.ev, ofV, ofA, ofS, put_mk, pureOp, readOp, pFA, pFA1, pFA2, rLd, rdAB_row, oneCell_one, hget_same, hget_hset_ite, pBin, binA, intOp_neq, intOp_lss, intOp_gtr, intOp_geq, pPick, List.length_cons, List.length_nil, List.getElem?_cons_zero, List.getElem?_cons_succ, List.drop_zero, List.drop_succ_cons, List.take_succ_cons, List.take_zero, Nat.zero_add, Nat.add_zero, Nat.reduceAdd, Nat.reduceLT, Nat.reduceLeDiff, Nat.reduceEqDiff, Nat.reduceSub, Nat.add_eq, loadA_w, loadW_s, pNil, binA, decide_false, Int.reduceLT, stepOp, stV_mk, T.get_n, T.set_n, T.set_e, Nat.reduceDiv, Nat.reduceMod, sz2, ag2, sz3, ag3, sz4, ag4, sz38, ag38, sz83, ag83, sz84, ag84, Tryz.underlying89, Tryz.underlying98, stepAny, wantedA_none, readSelf, av_int, av_bool, av_sl, rCall, rLen, hg, kko, l1, lL, z1, z2, z3, z4, pIA_s Tryz.underlying84 sz3 hj, pIA_s Tryz.underlying38 sz2 hj2, r1, r2, q1, q2, ky_old hk1, ky_old hk2, ar, rm, v1, v2, v3, pIA_s Tryz.underlying83 sz4 hs3, r3, q3, ky_old hk3, pIA_s Tryz.underlying83 sz4 hs4, r4, q4, ky_old hk4] <;> rfl))); (focus (first | exact SameH.refl _ | (simp only [sameT, sameS hw]; done)))) | ((with_reducible apply (r_drawW (id := 3) (js := [0, 1, 2, 3, 4, 5, 6, 7, 8]))); (focus kernel_rfl); (focus kernel_rfl); (focus (exact sd1))) | ((with_reducible apply d_end); (focus (simp only [List.length_cons, List.length_nil, Nat.add_assoc, Nat.reduceAdd, Nat.zero_add] <;> rfl))) | ((with_reducible apply (r_drawW (id := 4) (js := [0, 1, 2, 3, 4, 5, 6, 7, 8, 9, 10, 11, 12, 13, 14, 15, 16, 17, 18, 19, 20, 21, 22]))); (focus kernel_rfl); (focus kernel_rfl); (focus (exact sd1))) | ((with_reducible apply d_end); (focus (simp only [List.length_cons, List.length_nil, Nat.add_assoc, Nat.reduceAdd, Nat.zero_add] <;> rfl))) | ((with_reducible apply (r_drawW (id := 8) (js := [0, 1, 2, 3, 4, 5, 6, 7]))); (focus kernel_rfl); (focus kernel_rfl); (focus (exact sd1))) | ((with_reducible apply d_end); (focus (simp only [List.length_cons, List.length_nil, Nat.add_assoc, Nat.reduceAdd, Nat.zero_add] <;> rfl))) | ((with_reducible apply (r_drawW (id := 10) (js := [0, 1, 2, 3, 4, 5, 6, 7]))); (focus kernel_rfl); (focus kernel_rfl); (focus (exact sd1))) | ((with_reducible apply d_end); (focus (simp only [List.length_cons, List.length_nil, Nat.add_assoc, Nat.reduceAdd, Nat.zero_add] <;> rfl))) | ((with_reducible apply r_drawL); (focus kernel_rfl); (focus kernel_rfl); (focus (exact sd1))) | ((with_reducible (first | apply r_any | apply r_cond)); focus (simp only [↓reduceIte, clsOf, newBlk, allocOp, Fr.ev, ofV, ofA, ofS, nVar, AV.cells, rowOf_mk, put_mk, upd_mk, keyOf_mk, pureOp, readOp, pFA, pFA1, pFA2, rLd, rdAB_row, oneCell_one, hget_same, pBin, binA, intOp_neq, List.length_cons, List.length_nil, List.getElem?_cons_zero, List.getElem?_cons_succ, List.drop_zero, List.drop_succ_cons, List.take_succ_cons, List.take_zero, Nat.zero_add, Nat.add_zero, Nat.reduceAdd, Nat.reduceLT, Nat.reduceLeDiff, Nat.reduceEqDiff, Nat.reduceSub, Nat.add_eq, loadA_w, loadW_s, binA, bne_self_eq_false, stepOp, stV_mk, stB_mk, T.get_n, T.set_n, T.set_e, Nat.reduceDiv, Nat.reduceMod, sz3, ag3, Tryz.underlying89, stepAny, wantedA_none] <;> rfl)))
        subst hQ
        refine ret_back (by simp only [Tryz.results37, resultOf, resultsA, resultA, List.toList_toArray, Fr.ev, T.get_n, Nat.reduceDiv, Nat.reduceMod, Nat.reduceSub, Nat.reduceEqDiff, ↓reduceIte] <;> rfl) ?_
        exact ⟨_, out_eq (by rw [hr]), by repeat (first | exact Same.base _ _ _ | refine Same.hset hw ?_ (ky_le _ _))⟩
    | false =>
      rcases hc with rfl | ⟨rfl, rfl⟩
      all_goals
        refine sndQ_body (K := (KA A0)) ka_ok mixed noNum (m := s + 1) Tryz.func37 ?_
        generalize hQ : retQ _ _ _ _ _ _ = Q0
        refine body_go (c := Tryz.f37.body.getD .skip) (n := 134) rfl rfl (by simp only [↓reduceIte, T.setList, T.set_e, T.set_n, Nat.reduceDiv, Nat.reduceMod, Nat.reduceEqDiff, Nat.reduceSub, Nat.reduceAdd, Nat.zero_add] <;> rfl) ?_
        simp only [Tryz.f37, Option.getD_some]
        repeat' (first | refine st ?_ | ((with_reducible apply (r_drawW (id := 1) (js := [0, 1, 2, 3, 4, 5, 6, 7, 8, 9, 10, 11, 12, 13, 14, 15, 16, 17, 18, 19, 20, 21, 22, 23, 24, 25, 26, 27, 28, 29, 30, 31, 32, 33, 34]))); (focus kernel_rfl); (focus kernel_rfl); (focus (exact sd1))) | ((with_reducible apply d_end); (focus (simp only [List.length_cons, List.length_nil, Nat.reduceAdd, Nat.zero_add] <;> rfl))) | ((with_reducible apply d_any); (focus rfl); (iterate 2 (focus (simp only [↓reduceIte, wantedA_eq, gBool_t, gBool_f, Bool.not_false, clsOf, clsCall, Fr.ev, ofV, ofA, ofS, put_mk, pureOp, readOp, pFA, pFA1, pFA2, rLd, rdAB_row, oneCell_one, hget_same, hget_hset_ite, pBin, binA, intOp_neq, intOp_lss, intOp_gtr, intOp_geq, pPick, List.length_cons, List.length_nil, List.getElem?_cons_zero, List.getElem?_cons_succ, List.drop_zero, List.drop_succ_cons, List.take_succ_cons, List.take_zero, Nat.zero_add, Nat.add_zero, Nat.reduceAdd, Nat.reduceLT, Nat.reduceLeDiff, Nat.reduceEqDiff, Nat.reduceSub, Nat.add_eq, loadA_w, loadW_s, pNil, binA, decide_false, Int.reduceLT, stepOp, stV_mk, T.get_n, T.set_n, T.set_e, Nat.reduceDiv, Nat.reduceMod, sz2, ag2, sz3, ag3, sz4, ag4, sz38, ag38, sz83, ag83, sz84, ag84, Tryz.underlying89, Tryz.underlying98, stepAny, wantedA_none, readSelf, av_int, av_bool, av_sl, rCall, rLen, hg, kko, l1, lL, z1, z2, z3, z4, pIA_s Tryz.underlying84 sz3 hj, pIA_s Tryz.underlying38 sz2 hj2, r1, r2, q1, q2, ky_old hk1, ky_old hk2, ar, rm, v1, v2, v3, pIA_s Tryz.underlying83 sz4 hs3, r3, q3, ky_old hk3, pIA_s Tryz.underlying83 sz4 hs4, r4, q4, ky_old hk4] <;> rfl))); (focus (first | exact SameH.refl _ | (simp only [sameT, sameS hw]; done)))) | ((with_reducible apply (r_drawW (id := 3) (js := [0, 1, 2, 3, 4, 5, 6, 7, 8]))); (focus kernel_rfl); (focus kernel_rfl); (focus (exact sd1))) | ((with_reducible apply d_end); (focus (simp only [List.length_cons, List.length_nil, Nat.add_assoc, Nat.reduceAdd, Nat.zero_add] <;> rfl))) | ((with_reducible apply (r_drawW (id := 4) (js := [0, 1, 2, 3, 4, 5, 6, 7, 8, 9, 10, 11, 12, 13, 14, 15, 16, 17, 18, 19, 20, 21, 22]))); (focus kernel_rfl); (focus kernel_rfl); (focus (exact sd1))) | ((with_reducible apply d_end); (focus (simp only [List.length_cons, List.length_nil, Nat.add_assoc, Nat.reduceAdd, Nat.zero_add] <;> rfl))) | ((with_reducible apply (r_drawW (id := 8) (js := [0, 1, 2, 3, 4, 5, 6, 7]))); (focus kernel_rfl); (focus kernel_rfl); (focus (exact sd1))) | ((with_reducible apply d_end); (focus (simp only [List.length_cons, List.length_nil, Nat.add_assoc, Nat.reduceAdd, Nat.zero_add] <;> rfl))) | ((with_reducible apply (r_drawW (id := 10) (js := [0, 1, 2, 3, 4, 5, 6, 7]))); (focus kernel_rfl); (focus kernel_rfl); (focus (exact sd1))) | ((with_reducible apply d_end); (focus (simp only [List.length_cons, List.length_nil, Nat.add_assoc, Nat.reduceAdd, Nat.zero_add] <;> rfl))) | ((with_reducible apply r_drawL); (focus kernel_rfl); (focus kernel_rfl); (focus (exact sd1))) | ((with_reducible (first | apply r_any | apply r_cond)); focus (simp only [↓reduceIte, clsOf, newBlk, allocOp, Fr.ev, ofV, ofA, ofS, nVar, AV.cells, rowOf_mk, put_mk, upd_mk, keyOf_mk, pureOp, readOp, pFA, pFA1, pFA2, rLd, rdAB_row, oneCell_one, hget_same, pBin, binA, intOp_neq, List.length_cons, List.length_nil, List.getElem?_cons_zero, List.getElem?_cons_succ, List.drop_zero, List.drop_succ_cons, List.take_succ_cons, List.take_zero, Nat.zero_add, Nat.add_zero, Nat.reduceAdd, Nat.reduceLT, Nat.reduceLeDiff, Nat.reduceEqDiff, Nat.reduceSub, Nat.add_eq, loadA_w, loadW_s, binA, bne_self_eq_false, stepOp, stV_mk, stB_mk, T.get_n, T.set_n, T.set_e, Nat.reduceDiv, Nat.reduceMod, sz3, ag3, Tryz.underlying89, stepAny, wantedA_none] <;> rfl)))
        refine r_loop (I := fun nn fr s1 => ∃ lc tt m, fr = ⟨F, lc, 134, tt, [], .no⟩ ∧ s1 = ⟨(hset h (ky F 0) (mkRow [.int .i64 (j : Int), .int .i64 (s : Int), .int .i64 1] 0)), F + 1⟩ ∧ m ≤ s ∧ nn = s - m ∧ lc + nn * 1000 ≤ 100000000000000000000000000 ∧ (∀ k : Nat, k < m → ¬ (atB b.fu k = false ∧ atB b.re k = false ∧ clashP (atL R k) (atL W k) (atL R s) (atL W s))) ∧ tt.get 0 = some (.ptr kk 0) ∧ tt.get 1 = some l ∧ tt.get 5 = some (.ptr (ky F 0) 0) ∧ tt.get 8 = some (.int .i64 (m : Int))) (n := s) ?_ ?_ ?_
        · omega
        · exact ⟨_, _, 0, rfl, rfl, Nat.zero_le _, (Nat.sub_zero _).symm, by omega, fun k hk => by omega, sd8, sd8, sd8, sd8⟩
        rintro nn fr s1 ⟨lc, tt, m, rfl, rfl, hm, rfl, hlc, hI, u0, u1, u5, u8⟩
        by_cases hms : m < s
        rotate_left
        · have hks := lt_f hms
          have hr : takesB R W b (s : Int) = 0 := tk0 (atB_of hf) (atB_of ht) fun ⟨k, hk, hh⟩ => hI k (by rw [Int.toNat_natCast] at hk; omega) (by rw [Int.toNat_natCast] at hh; exact hh)
          rw [← rlt hsix h2 rfl] at hr
          repeat' (first | refine st ?_ | ((with_reducible apply r_drawL); (focus kernel_rfl); (focus kernel_rfl); (focus (exact sd1))) | ((with_reducible (first | apply r_any | apply r_cond)); focus (simp only [↓reduceIte, clsOf, Fr.ev, ofV, ofA, ofS, put_mk, pureOp, readOp, pFA, pFA1, pFA2, rLd, rdAB_row, oneCell_one, hget_same, pBin, binA, intOp_lss, List.length_cons, List.length_nil, List.getElem?_cons_zero, List.getElem?_cons_succ, List.drop_zero, List.drop_succ_cons, List.take_succ_cons, List.take_zero, Nat.zero_add, Nat.reduceAdd, Nat.reduceLT, Nat.reduceLeDiff, Nat.reduceEqDiff, Nat.add_eq, loadA_w, loadW_s, binA, stepOp, stV_mk, sz2, ag2, Tryz.underlying89, stepAny, wantedA_none, Tget_set, u5, hks] <;> rfl)))
          subst hQ
          refine ret_back (by simp only [Tryz.results37, resultOf, resultsA, resultA, List.toList_toArray, Fr.ev, Tget_set, ↓reduceIte] <;> rfl) ?_
          exact ⟨_, out_eq (by rw [hr]), by repeat (first | exact Same.base _ _ _ | refine Same.hset hw ?_ (ky_le _ _))⟩
        have hks := lt_t hms
        have nxt : ¬ (atB b.fu m = false ∧ atB b.re m = false ∧ clashP (atL R m) (atL W m) (atL R s) (atL W s)) → ∀ k : Nat, k < m + 1 → ¬ (atB b.fu k = false ∧ atB b.re k = false ∧ clashP (atL R k) (atL W k) (atL R s) (atL W s)) := fun hm' k hk => by
          by_cases hkm : k < m
          · exact hI k hkm
          · rw [show k = m by omega]; exact hm'
        have hmR : m < R.length := by omega
        have hm3 : m < b.fu.length := by rw [gd.fu]; exact hmR
        have hm5 : m < b.re.length := by rw [gd.re]; exact hmR
        have ad := intOp_add (P := Tryz.prog) (t := 2) (show inR ((m : Int) + 1) by unfold inR; omega)
        obtain ⟨w1, hw1'⟩ : ∃ v, b.fu[m]? = some v := ⟨_, List.getElem?_eq_getElem hm3⟩
        obtain ⟨w2, hw2'⟩ : ∃ v, b.re[m]? = some v := ⟨_, List.getElem?_eq_getElem hm5⟩
        have qf := rd_a (bools_get hw1')
        have qr := rd_a (bools_get hw2')
        obtain ⟨b1, p1, ep1, cp1, rr1, ww1, el, hb1, f1, hr1, hw1⟩ := foot_at hw hL (SameH.refl h) hmR
        obtain ⟨b2, p2, ep2, cp2, rr2, ww2, el2, hb2, f2, hr2, hw2⟩ := foot_at hw hL (SameH.refl h) hsR
        have e12 := el.symm.trans el2
        cases e12
        rw [el] at u1
        cases w1 with
        | true =>
          repeat' (first | refine st ?_ | ((with_reducible apply (r_drawW (id := 15) (js := [0, 1, 2, 3, 4, 5, 6, 7, 8, 9, 10, 11, 12, 13, 14, 15, 16, 17, 18, 19, 20, 21, 22, 23, 24, 25, 26, 27, 28, 29, 30, 31, 32, 33]))); (focus kernel_rfl); (focus kernel_rfl); (focus (exact sd1))) | ((with_reducible apply d_end); (focus (simp only [List.length_cons, List.length_nil, Nat.add_assoc, Nat.reduceAdd, Nat.zero_add] <;> rfl))) | ((with_reducible apply d_any); (focus rfl); (iterate 2 (focus (simp only [↓reduceIte, wantedA_eq, gBool_t, Bool.not_true, clsOf, clsCall, Fr.ev, ofV, ofA, ofS, put_mk, pureOp, readOp, pFA, pFA1, pFA2, rLd, rdAB_row, oneCell_one, hget_hset_ite, pPick, List.length_cons, List.length_nil, List.getElem?_cons_zero, List.getElem?_cons_succ, List.drop_zero, List.drop_succ_cons, List.take_succ_cons, List.take_zero, Nat.zero_add, Nat.reduceAdd, Nat.reduceLT, Nat.reduceLeDiff, Nat.reduceEqDiff, Nat.add_eq, loadA_w, loadW_s, pUn_not, pNil, stepOp, stV_mk, sz4, ag4, sz83, ag83, Tryz.underlying98, stepAny, wantedA_none, readSelf, av_bool, av_sl, Tget_set, u0, u8, hg, kko, pIA_s Tryz.underlying83 sz4 hm3, r3, qf, ky_old hk3] <;> rfl))); (focus (first | exact SameH.refl _ | (simp only [sameT, sameS hw]; done)))) | ((with_reducible apply r_drawL); (focus kernel_rfl); (focus kernel_rfl); (focus (exact sd1))) | ((with_reducible (first | apply r_any | apply r_cond)); focus (simp only [↓reduceIte, clsOf, Fr.ev, ofV, ofA, ofS, put_mk, pureOp, readOp, pFA, pFA1, pFA2, rLd, rdAB_row, oneCell_one, hget_same, pBin, binA, intOp_lss, List.length_cons, List.length_nil, List.getElem?_cons_zero, List.getElem?_cons_succ, List.drop_zero, List.drop_succ_cons, List.take_succ_cons, List.take_zero, Nat.zero_add, Nat.reduceAdd, Nat.reduceLT, Nat.reduceLeDiff, Nat.reduceEqDiff, Nat.add_eq, loadA_w, loadW_s, binA, stepOp, stV_mk, sz2, ag2, Tryz.underlying89, stepAny, wantedA_none, Tget_set, u5, hks, ad] <;> rfl)))
          exact r_rq_n (k := s - (m + 1)) (by omega) ⟨_, _, m + 1, rfl, rfl, by omega, rfl, by omega, nxt (by rw [atB_of hw1']; intro h; exact absurd h.1 (by decide)), sd8, (by first | (simp only [Tget_set, Nat.reduceEqDiff, ↓reduceIte, u1, el] <;> rfl) | rfl), sd8, sd8⟩
        | false =>
          cases w2 with
          | true =>
            repeat' (first | refine st ?_ | ((with_reducible apply (r_drawW (id := 15) (js := [0, 1, 2, 3, 4, 5, 6, 7, 8, 9, 10, 11, 12, 13, 14, 15, 16, 17, 18, 19, 20, 21, 22, 23, 24, 25, 26, 27, 28, 29, 30, 31, 32, 33]))); (focus kernel_rfl); (focus kernel_rfl); (focus (exact sd1))) | ((with_reducible apply d_end); (focus (simp only [List.length_cons, List.length_nil, Nat.add_assoc, Nat.reduceAdd, Nat.zero_add] <;> rfl))) | ((with_reducible apply d_any); (focus rfl); (iterate 2 (focus (simp only [↓reduceIte, wantedA_eq, gBool_t, Bool.not_true, Bool.not_false, clsOf, clsCall, Fr.ev, ofV, ofA, ofS, put_mk, pureOp, readOp, pFA, pFA1, pFA2, rLd, rdAB_row, oneCell_one, hget_hset_ite, pPick, List.length_cons, List.length_nil, List.getElem?_cons_zero, List.getElem?_cons_succ, List.drop_zero, List.drop_succ_cons, List.take_succ_cons, List.take_zero, Nat.zero_add, Nat.reduceAdd, Nat.reduceLT, Nat.reduceLeDiff, Nat.reduceEqDiff, Nat.add_eq, loadA_w, loadW_s, pUn_not, pNil, stepOp, stV_mk, sz4, ag4, sz83, ag83, Tryz.underlying98, stepAny, wantedA_none, readSelf, av_bool, av_sl, Tget_set, u0, u8, hg, kko, pIA_s Tryz.underlying83 sz4 hm3, pIA_s Tryz.underlying83 sz4 hm5, r3, r5, qf, qr, ky_old hk3, ky_old hk5] <;> rfl))); (focus (first | exact SameH.refl _ | (simp only [sameT, sameS hw]; done)))) | ((with_reducible apply r_drawL); (focus kernel_rfl); (focus kernel_rfl); (focus (exact sd1))) | ((with_reducible (first | apply r_any | apply r_cond)); focus (simp only [↓reduceIte, clsOf, Fr.ev, ofV, ofA, ofS, put_mk, pureOp, readOp, pFA, pFA1, pFA2, rLd, rdAB_row, oneCell_one, hget_same, pBin, binA, intOp_lss, List.length_cons, List.length_nil, List.getElem?_cons_zero, List.getElem?_cons_succ, List.drop_zero, List.drop_succ_cons, List.take_succ_cons, List.take_zero, Nat.zero_add, Nat.reduceAdd, Nat.reduceLT, Nat.reduceLeDiff, Nat.reduceEqDiff, Nat.add_eq, loadA_w, loadW_s, binA, stepOp, stV_mk, sz2, ag2, Tryz.underlying89, stepAny, wantedA_none, Tget_set, u5, hks, ad] <;> rfl)))
            exact r_rq_n (k := s - (m + 1)) (by omega) ⟨_, _, m + 1, rfl, rfl, by omega, rfl, by omega, nxt (by rw [atB_of hw2']; intro h; exact absurd h.2.1 (by decide)), sd8, (by first | (simp only [Tget_set, Nat.reduceEqDiff, ↓reduceIte, u1, el] <;> rfl) | rfl), sd8, sd8⟩
          | false =>
            have kcl := k_clashB (S := A0) (F := F + 1) hr1 hw1 hr2 hw2 (hb m) (hb s) hSB
            by_cases hcl : clashP (atL R m) (atL W m) (atL R s) (atL W s)
            rotate_left
            · have hd := dec_f hcl
              repeat' (first | refine st ?_ | ((with_reducible apply (r_drawW (id := 15) (js := [0, 1, 2, 3, 4, 5, 6, 7, 8, 9, 10, 11, 12, 13, 14, 15, 16, 17, 18, 19, 20, 21, 22, 23, 24, 25, 26, 27, 28, 29, 30, 31, 32, 33]))); (focus kernel_rfl); (focus kernel_rfl); (focus (exact sd1))) | ((with_reducible apply d_end); (focus (simp only [List.length_cons, List.length_nil, Nat.add_assoc, Nat.reduceAdd, Nat.zero_add] <;> rfl))) | ((with_reducible apply d_any); (focus rfl); (iterate 2 (focus (simp only [↓reduceIte, wantedA_eq, gBool_t, Bool.not_false, clsOf, clsCall, Fr.ev, evs, put_mk, pureOp, readOp, pFA, pFA1, pFA2, rLd, rdAB_row, oneCell_one, someAgg_s, hget_same, hget_hset_ite, pPick, List.length_cons, List.length_nil, List.getElem?_cons_zero, List.getElem?_cons_succ, List.drop_zero, List.drop_succ_cons, List.take_succ_cons, List.take_zero, Nat.zero_add, Nat.reduceAdd, Nat.reduceLT, Nat.reduceLeDiff, Nat.reduceEqDiff, Nat.add_eq, loadA_w, loadW_a, loadW_s, pUn_not, callTo_s, heavyCall, target, List.nil_append, List.append_nil, pNil, Bool.and_true, stepOp, stHeavy, stV_mk, stO_mk, sz2, ag2, sz4, ag4, sz74, ag74, sz78, Tryz.underlying78, Tryz.underlying81, sz83, ag83, Tryz.underlying89, Tryz.underlying98, stepAny, wantedA_none, readSelf, av_int, av_bool, av_sl, av_agg, avs_nil, avs_cons, Tget_set, u0, u1, u5, u8, hg, kko, pIA_s Tryz.underlying83 sz4 hm3, pIA_s Tryz.underlying83 sz4 hm5, r3, r5, qf, qr, ky_old hk3, ky_old hk5, pIA_s Tryz.underlying43 sz81 hmR, pIA_s Tryz.underlying43 sz81 hsR, f1, f2, ky_old hb1, kcl, hd, av_self_L hr1, av_self_L hw1, av_self_L hr2, av_self_L hw2] <;> rfl))); (focus (first | exact SameH.refl _ | (simp only [sameT, sameS hw]; done)))) | ((with_reducible apply r_drawL); (focus kernel_rfl); (focus kernel_rfl); (focus (exact sd1))) | ((with_reducible (first | apply r_any | apply r_cond)); focus (simp only [↓reduceIte, clsOf, Fr.ev, ofV, ofA, ofS, put_mk, pureOp, readOp, pFA, pFA1, pFA2, rLd, rdAB_row, oneCell_one, hget_same, pBin, binA, intOp_lss, List.length_cons, List.length_nil, List.getElem?_cons_zero, List.getElem?_cons_succ, List.drop_zero, List.drop_succ_cons, List.take_succ_cons, List.take_zero, Nat.zero_add, Nat.reduceAdd, Nat.reduceLT, Nat.reduceLeDiff, Nat.reduceEqDiff, Nat.add_eq, loadA_w, loadW_s, binA, stepOp, stV_mk, sz2, ag2, Tryz.underlying89, stepAny, wantedA_none, Tget_set, u5, hks, ad] <;> rfl)))
              exact r_rq_n (k := s - (m + 1)) (by omega) ⟨_, _, m + 1, rfl, rfl, by omega, rfl, by omega, nxt (by intro h; exact hcl h.2.2), sd8, (by first | (simp only [Tget_set, Nat.reduceEqDiff, ↓reduceIte, u1, el] <;> rfl) | rfl), sd8, sd8⟩
            have hd := dec_t hcl
            have hr : takesB R W b (s : Int) = 5 := tk5 (atB_of hf) (atB_of ht) ⟨m, by rw [Int.toNat_natCast]; exact hms, atB_of hw1', atB_of hw2', by rw [Int.toNat_natCast]; exact hcl⟩
            rw [← rlt hsix h2 rfl] at hr
            repeat' (first | refine st ?_ | ((with_reducible apply (r_drawW (id := 15) (js := [0, 1, 2, 3, 4, 5, 6, 7, 8, 9, 10, 11, 12, 13, 14, 15, 16, 17, 18, 19, 20, 21, 22, 23, 24, 25, 26, 27, 28, 29, 30, 31, 32, 33]))); (focus kernel_rfl); (focus kernel_rfl); (focus (exact sd1))) | ((with_reducible apply d_end); (focus (simp only [List.length_cons, List.length_nil, Nat.add_assoc, Nat.reduceAdd, Nat.zero_add] <;> rfl))) | ((with_reducible apply d_any); (focus rfl); (iterate 2 (focus (simp only [↓reduceIte, wantedA_eq, gBool_t, Bool.not_false, clsOf, clsCall, Fr.ev, evs, put_mk, pureOp, readOp, pFA, pFA1, pFA2, rLd, rdAB_row, oneCell_one, someAgg_s, hget_same, hget_hset_ite, pPick, List.length_cons, List.length_nil, List.getElem?_cons_zero, List.getElem?_cons_succ, List.drop_zero, List.drop_succ_cons, List.take_succ_cons, List.take_zero, Nat.zero_add, Nat.reduceAdd, Nat.reduceLT, Nat.reduceLeDiff, Nat.reduceEqDiff, Nat.add_eq, loadA_w, loadW_a, loadW_s, pUn_not, callTo_s, heavyCall, target, List.nil_append, List.append_nil, pNil, Bool.and_true, stepOp, stHeavy, stV_mk, stO_mk, sz2, ag2, sz4, ag4, sz74, ag74, sz78, Tryz.underlying78, Tryz.underlying81, sz83, ag83, Tryz.underlying89, Tryz.underlying98, stepAny, wantedA_none, readSelf, av_int, av_bool, av_sl, av_agg, avs_nil, avs_cons, Tget_set, u0, u1, u5, u8, hg, kko, pIA_s Tryz.underlying83 sz4 hm3, pIA_s Tryz.underlying83 sz4 hm5, r3, r5, qf, qr, ky_old hk3, ky_old hk5, pIA_s Tryz.underlying43 sz81 hmR, pIA_s Tryz.underlying43 sz81 hsR, f1, f2, ky_old hb1, kcl, hd, av_self_L hr1, av_self_L hw1, av_self_L hr2, av_self_L hw2] <;> rfl))); (focus (first | exact SameH.refl _ | (simp only [sameT, sameS hw]; done)))) | ((with_reducible apply r_drawL); (focus kernel_rfl); (focus kernel_rfl); (focus (exact sd1))) | ((with_reducible (first | apply r_any | apply r_cond)); focus (simp only [↓reduceIte, clsOf, Fr.ev, ofV, ofA, ofS, put_mk, pureOp, readOp, pFA, pFA1, pFA2, rLd, rdAB_row, oneCell_one, hget_same, pBin, binA, intOp_lss, List.length_cons, List.length_nil, List.getElem?_cons_zero, List.getElem?_cons_succ, List.drop_zero, List.drop_succ_cons, List.take_succ_cons, List.take_zero, Nat.zero_add, Nat.reduceAdd, Nat.reduceLT, Nat.reduceLeDiff, Nat.reduceEqDiff, Nat.add_eq, loadA_w, loadW_s, binA, stepOp, stV_mk, sz2, ag2, Tryz.underlying89, stepAny, wantedA_none, Tget_set, u5, hks] <;> rfl)))
            subst hQ
            refine ret_back (by simp only [Tryz.results37, resultOf, resultsA, resultA, List.toList_toArray, Fr.ev, Tget_set, ↓reduceIte] <;> rfl) ?_
            exact ⟨_, out_eq (by rw [hr]), by repeat (first | exact Same.base _ _ _ | refine Same.hset hw ?_ (ky_le _ _))⟩

end Go.Proofs.YtfhgiadogeephaaGreatDoor

