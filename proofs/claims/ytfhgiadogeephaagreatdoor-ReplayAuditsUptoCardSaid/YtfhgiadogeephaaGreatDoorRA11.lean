/- A part of the proof of the law ReplayAudits. CONDITIONS: those that each theorem names. -/
import Derived.Test.YtfhgiadogeephaaGreatDoorPartA
import Derived.Test.YtfhgiadogeephaaGreatDoorPartB
import Derived.Test.YtfhgiadogeephaaGreatDoorRA7
namespace Go.Proofs.YtfhgiadogeephaaGreatDoor
open Go Go.Ai
set_option maxRecDepth 100000

/-- an entry's nine cells -/
theorem foot_at9 {h h1 : Heap} {F : Nat} {a : AV} {R W : List (List Tx)} (hw : Wf ⟨h, F⟩) (e : EntP h a R W) (hs : SameH h h1) {i : Nat} (hi : i < R.length) : ∃ b o eo cap n0 n1 n2 n3 t4 a5 n6 r w, a = .slice b o eo R.length cap ∧ b < ky F 0 ∧ rdAB (hget h1 b) (o + i * 9) 9 = some [.int .i64 n0, .int .i64 n1, .int .i64 n2, .int .u64 n3, .str t4, a5, .int .i64 n6, r, w] ∧ LstP h ksT r (tL (atL R i)) ∧ LstP h ksT w (tL (atL W i)) ∧ isCell a5 = true ∧ isCell r = true ∧ isCell w = true := by
  obtain ⟨X, h1, h2, _, h4⟩ := e
  have hX : i < X.length := by omega
  obtain ⟨b, o, eo, cap, e, h0, hp⟩ := h1.at hX
  have hx : X[i]? = some X[i] := by simp [hX]
  obtain ⟨r, w, k1, k2, k3, k4⟩ := h4 i _ hx
  obtain ⟨a0, r0, e0, c0, a1, r1, e1, c1, a2, r2, e2, c2, a3, r3, e3, c3, a4, r4, e4, c4, a5, r5, e5, c5, a6, r6, e6, c6, a7, r7, e7, c7, a8, r8, e8, c8, e9⟩ := h1.ok hX
  subst e9 e8 e7 e6 e5 e4 e3 e2 e1
  rw [e0] at k1 k2 h0
  cases k1
  cases k2
  have hi : ∀ {k : IntKind} {a : AV}, ckOk (.i k) a → ∃ n, a = .int k n := fun {k a} hc => by
    cases a <;> simp only [ckOk] at hc
    exact ⟨_, by rw [hc.1]⟩
  obtain ⟨n0, rfl⟩ := hi c0
  obtain ⟨n1, rfl⟩ := hi c1
  obtain ⟨n2, rfl⟩ := hi c2
  obtain ⟨n3, rfl⟩ := hi c3
  obtain ⟨n6, rfl⟩ := hi c6
  obtain ⟨t4, rfl⟩ : ∃ t, a4 = .str t := by
    cases a4 <;> simp only [ckOk] at c4
    exact ⟨_, rfl⟩
  have ia : isCell a5 = true := by cases a5 <;> first | rfl | (simp only [ckOk] at c5)
  exact ⟨b, o, eo, cap, n0, n1, n2, n3, t4, a5, n6, _, _, by rw [e, h2], rd_low hw h0, hs.rd h0, k3, k4, ia, isCell_L k3, isCell_L k4⟩
set_option maxHeartbeats 16000000 in
theorem takesA (h : Heap) (F : Nat) (kk : Nat) (s1 s2 s3 s4 s5 l : AV) (b : Bk) (s : Nat) (R W : List (List Tx)) (w : Nat) (hk : kk < ky F 0) (hg : hget h kk = some (mkRow [l, s3, s4, s5, s1, s2] 0)) (g3 : RowB h F s3 (bools b.fu)) (g4 : RowB h F s4 (bools b.ta)) (g5 : RowB h F s5 (bools b.re)) (gd : Gd w R.length b) (hL : EntP h l R W) (hroom : RoomA l) (hn : R.length ≤ 100) (hsR : s < R.length) :
    Snd Tryz.prog [] 66 [.ptr kk 0, .int .i64 (s : Int)] ⟨h, F⟩ [.val (.int .i64 (takesB R W b (s : Int))) ⟨h, F⟩] := by
  refine snd_val (by simp [Kin]) fun hw => ?_
  have mxl : maxLen = 9223372036854775807 := by decide
  have lL := fun (h2 : Heap) => hL.len (h2 := h2)
  have kko := fun (a : Nat) => ky_old (a := a) hk
  have hs3 : s < b.fu.length := by rw [gd.fu]; exact hsR
  have hs4 : s < b.ta.length := by rw [gd.ta]; exact hsR
  obtain ⟨k3, eo3, cap3, hk3, rfl, r3⟩ := g3.pos (by rw [bools_len]; omega)
  obtain ⟨k4, eo4, cap4, hk4, rfl, r4⟩ := g4.pos (by rw [bools_len]; omega)
  obtain ⟨k5, eo5, cap5, hk5, rfl, r5⟩ := g5.pos (by rw [bools_len, gd.re]; omega)
  simp only [bools_len] at hg
  obtain ⟨vf, hf⟩ : ∃ v, b.fu[s]? = some v := ⟨_, List.getElem?_eq_getElem hs3⟩
  obtain ⟨vt, ht⟩ : ∃ v, b.ta[s]? = some v := ⟨_, List.getElem?_eq_getElem hs4⟩
  have q3 := rd_a (bools_get hf)
  have q4 := rd_a (bools_get ht)
  cases vf with
  | true =>
    have hr : takesB R W b (s : Int) = 3 := tk3 (atB_of hf)
    refine sndQ_body (K := (KA A0)) ka_ok mixed noNum (m := s + 1) Tryz.func66 ?_
    generalize hQ : retQ _ _ _ _ _ _ = Q0
    refine body_go (c := Tryz.f66.body.getD .skip) (n := 69) rfl rfl (by simp only [↓reduceIte, T.setList, T.set_e, T.set_n, Nat.reduceDiv, Nat.reduceMod, Nat.reduceEqDiff, Nat.zero_add] <;> rfl) ?_
    simp only [Tryz.f66, Option.getD_some]
    repeat' (first | refine st ?_ | ((with_reducible apply r_drawL); (focus kernel_rfl); (focus kernel_rfl); (focus (exact sd1))) | ((with_reducible (first | apply r_any | apply r_cond)); focus (simp only [↓reduceIte, clsOf, Fr.ev, ofV, ofA, ofS, put_mk, pureOp, readOp, pFA, pFA1, pFA2, rLd, rdAB_row, oneCell_one, List.length_cons, List.length_nil, List.getElem?_cons_zero, List.getElem?_cons_succ, List.drop_zero, List.drop_succ_cons, List.take_succ_cons, List.take_zero, Nat.zero_add, Nat.reduceAdd, Nat.reduceLT, Nat.reduceLeDiff, Nat.reduceEqDiff, Nat.reduceSub, Nat.add_eq, loadA_w, loadW_s, pNil, stepOp, stV_mk, T.get_n, T.set_n, T.set_e, Nat.reduceDiv, Nat.reduceMod, sz4, ag4, sz83, ag83, Tryz.underlying86, stepAny, wantedA_none, hg, pIA_s Tryz.underlying83 sz4 hs3, r3, q3] <;> rfl)))
    subst hQ
    refine ret_back (by simp only [Tryz.results66, resultOf, resultsA, resultA, List.toList_toArray, Fr.ev, T.get_n, Nat.reduceDiv, Nat.reduceMod, Nat.reduceSub, Nat.reduceEqDiff, ↓reduceIte] <;> rfl) ?_
    exact ⟨_, out_eq (by rw [hr]), by repeat (first | exact Same.base _ _ _ | refine Same.hset hw ?_ (ky_le _ _))⟩
  | false =>
    cases vt with
    | true =>
      have hr : takesB R W b (s : Int) = 4 := tk4 (atB_of hf) (atB_of ht)
      refine sndQ_body (K := (KA A0)) ka_ok mixed noNum (m := s + 1) Tryz.func66 ?_
      generalize hQ : retQ _ _ _ _ _ _ = Q0
      refine body_go (c := Tryz.f66.body.getD .skip) (n := 69) rfl rfl (by simp only [↓reduceIte, T.setList, T.set_e, T.set_n, Nat.reduceDiv, Nat.reduceMod, Nat.reduceEqDiff, Nat.zero_add] <;> rfl) ?_
      simp only [Tryz.f66, Option.getD_some]
      repeat' (first | refine st ?_ | ((with_reducible apply r_drawL); (focus kernel_rfl); (focus kernel_rfl); (focus (exact sd1))) | ((with_reducible (first | apply r_any | apply r_cond)); focus (simp only [↓reduceIte, clsOf, Fr.ev, ofV, ofA, ofS, put_mk, pureOp, readOp, pFA, pFA1, pFA2, rLd, rdAB_row, oneCell_one, List.length_cons, List.length_nil, List.getElem?_cons_zero, List.getElem?_cons_succ, List.drop_zero, List.drop_succ_cons, List.take_succ_cons, List.take_zero, Nat.zero_add, Nat.reduceAdd, Nat.reduceLT, Nat.reduceLeDiff, Nat.reduceEqDiff, Nat.reduceSub, Nat.add_eq, loadA_w, loadW_s, pNil, stepOp, stV_mk, T.get_n, T.set_n, T.set_e, Nat.reduceDiv, Nat.reduceMod, sz4, ag4, sz83, ag83, Tryz.underlying86, stepAny, wantedA_none, hg, pIA_s Tryz.underlying83 sz4 hs3, r3, q3, pIA_s Tryz.underlying83 sz4 hs4, r4, q4] <;> rfl)))
      subst hQ
      refine ret_back (by simp only [Tryz.results66, resultOf, resultsA, resultA, List.toList_toArray, Fr.ev, T.get_n, Nat.reduceDiv, Nat.reduceMod, Nat.reduceSub, Nat.reduceEqDiff, ↓reduceIte] <;> rfl) ?_
      exact ⟨_, out_eq (by rw [hr]), by repeat (first | exact Same.base _ _ _ | refine Same.hset hw ?_ (ky_le _ _))⟩
    | false =>
      obtain ⟨b1, p1, ep1, cp1, _, _, rfl, hb1, _, _, _⟩ := foot_at hw hL (SameH.refl h) hsR
      obtain ⟨ep3, cp3, hsl⟩ := sl_to (P := Tryz.prog) (t := 43) (es := 9) (s := s) Tryz.underlying43 sz81 hroom (by omega)
      refine sndQ_body (K := (KA A0)) ka_ok mixed noNum (m := s + 1) Tryz.func66 ?_
      generalize hQ : retQ _ _ _ _ _ _ = Q0
      refine body_go (c := Tryz.f66.body.getD .skip) (n := 69) rfl rfl (by simp only [↓reduceIte, T.setList, T.set_e, T.set_n, Nat.reduceDiv, Nat.reduceMod, Nat.reduceEqDiff, Nat.zero_add] <;> rfl) ?_
      simp only [Tryz.f66, Option.getD_some]
      repeat' (first | refine st ?_ | ((with_reducible apply r_drawL); (focus kernel_rfl); (focus kernel_rfl); (focus (exact sd1))) | ((with_reducible (first | apply r_any | apply r_cond)); focus (simp only [↓reduceIte, clsOf, clsCall, Fr.ev, ofV, ofA, ofS, put_mk, pureOp, readOp, pFA, pFA1, pFA2, rLd, rdAB_row, oneCell_one, List.length_cons, List.length_nil, List.getElem?_cons_zero, List.getElem?_cons_succ, List.drop_zero, List.drop_succ_cons, List.take_succ_cons, List.take_zero, Nat.zero_add, Nat.add_zero, Nat.reduceAdd, Nat.reduceLT, Nat.reduceLeDiff, Nat.reduceEqDiff, Nat.reduceSub, Nat.add_eq, loadA_w, loadW_s, pNil, stepOp, stV_mk, T.get_n, T.set_n, T.set_e, Nat.reduceDiv, Nat.reduceMod, sz4, ag4, sz43, ag43, Tryz.underlying43, sz83, ag83, Tryz.underlying86, stepAny, wantedA_none, rCall, rLen, rLen1_sl, lenA, hg, pIA_s Tryz.underlying83 sz4 hs3, r3, q3, pIA_s Tryz.underlying83 sz4 hs4, r4, q4, rSl, pSlice, Go.Ai.evO, hsl] <;> rfl)))
      refine r_loop (I := fun nn fr s1 => ∃ lc tt h1 m, fr = ⟨F, lc, 69, tt, [], .no⟩ ∧ s1 = ⟨h1, F + 1⟩ ∧ m ≤ s ∧ nn = s - m ∧ lc + nn * 1000 ≤ 100000000000000000000000000 ∧ Low F h h1 ∧ (∀ k : Nat, k < m → ¬ (atB b.fu k = false ∧ atB b.re k = false ∧ clashP (atL R k) (atL W k) (atL R s) (atL W s))) ∧ tt.get 0 = some (.ptr kk 0) ∧ tt.get 1 = some (.int .i64 (s : Int)) ∧ tt.get 28 = some (.slice b1 p1 ep3 s cp3) ∧ tt.get 29 = some (.int .i64 (s : Int)) ∧ tt.get 30 = some (.int .i64 (m : Int))) (n := s) ?_ ?_ ?_
      · omega
      · exact ⟨_, _, _, 0, rfl, rfl, Nat.zero_le _, (Nat.sub_zero _).symm, by omega, Low.refl F h, fun k hk => by omega, sd8, sd8, sd8, sd8, sd8⟩
      rintro nn fr s1 ⟨lc, tt, h1, m, rfl, rfl, hm, rfl, hlc, hlow, hI, u0, u1, u28, u29, u30⟩
      have hS := hlow.same hw
      by_cases hms : m < s
      rotate_left
      · have hks := lt_f hms
        have hr : takesB R W b (s : Int) = 0 := tk0 (atB_of hf) (atB_of ht) fun ⟨k, hk, hh⟩ => hI k (by rw [Int.toNat_natCast] at hk; omega) (by rw [Int.toNat_natCast] at hh; exact hh)
        repeat' (first | refine st ?_ | ((with_reducible apply r_drawL); (focus kernel_rfl); (focus kernel_rfl); (focus (exact sd1))) | ((with_reducible (first | apply r_any | apply r_cond)); focus (simp only [↓reduceIte, clsOf, Fr.ev, ofV, ofA, ofS, put_mk, pureOp, pBin, binA, intOp_lss, Nat.reduceLT, binA, stepOp, stV_mk, stepAny, wantedA_none, u29, u30, hks] <;> rfl)))
        subst hQ
        refine ret_back (by simp only [Tryz.results66, resultOf, resultsA, resultA, List.toList_toArray, Fr.ev, Tget_set, ↓reduceIte] <;> rfl) ?_
        exact ⟨_, out_eq (by rw [hr]), hS⟩
      have hks := lt_t hms
      have nxt : ¬ (atB b.fu m = false ∧ atB b.re m = false ∧ clashP (atL R m) (atL W m) (atL R s) (atL W s)) → ∀ k : Nat, k < m + 1 → ¬ (atB b.fu k = false ∧ atB b.re k = false ∧ clashP (atL R k) (atL W k) (atL R s) (atL W s)) := fun hm' k hk => by
        by_cases hkm : k < m
        · exact hI k hkm
        · rw [show k = m by omega]; exact hm'
      have hmR : m < R.length := by omega
      have hm3 : m < b.fu.length := by rw [gd.fu]; exact hmR
      have hm5 : m < b.re.length := by rw [gd.re]; exact hmR
      have ad := intOp_add (P := Tryz.prog) (t := 3) (show inR ((m : Int) + 1) by unfold inR; omega)
      have hgm := hS kk _ hg (by unfold mkRow; simp)
      have r3m := hS k3 _ r3 (by unfold aRow mkRow; simp)
      have r5m := hS k5 _ r5 (by unfold aRow mkRow; simp)
      have n1 := fun (c : Nat) => ky_old (a := c) hk
      obtain ⟨w1, hw1'⟩ : ∃ v, b.fu[m]? = some v := ⟨_, List.getElem?_eq_getElem hm3⟩
      obtain ⟨w2, hw2'⟩ : ∃ v, b.re[m]? = some v := ⟨_, List.getElem?_eq_getElem hm5⟩
      have qf := rd_a (bools_get hw1')
      have qr := rd_a (bools_get hw2')
      obtain ⟨b4, p4, ep4, cp4, n0, n1', n2, n3, t4, a5, n6, rr1, ww1, el3, _, f9, hr1, hw1, ia, ir, iw⟩ := foot_at9 hw hL hS hmR
      cases el3
      obtain ⟨b2, p2, ep2, cp2, rr2, ww2, el2, hb2, f2, hr2, hw2⟩ := foot_at hw hL hS hsR
      cases el2
      cases w1 with
      | true =>
        repeat' (first | refine st ?_ | ((with_reducible apply (r_drawW (id := 8) (js := [0, 1, 2, 3, 4, 5, 6, 7, 8, 9, 10, 11, 12, 13, 14, 15, 16, 17, 18, 19, 20, 21, 22, 23, 24, 25, 26, 27, 28, 29, 30, 31, 32]))); (focus kernel_rfl); (focus kernel_rfl); (focus (exact sd1))) | ((with_reducible apply d_end); (focus (simp only [List.length_cons, List.length_nil, Nat.add_assoc, Nat.reduceAdd, Nat.zero_add] <;> rfl))) | ((with_reducible apply d_any); (focus rfl); (iterate 2 (focus (simp only [↓reduceIte, wantedA_eq, gBool_t, Bool.not_true, clsOf, clsCall, Fr.ev, ofV, ofA, ofS, put_mk, pureOp, readOp, pFA, pFA1, pFA2, rLd, rdAB_row, oneCell_one, hget_hset_ite, pPick, List.length_cons, List.length_nil, List.getElem?_cons_zero, List.getElem?_cons_succ, List.drop_zero, List.drop_succ_cons, List.take_succ_cons, List.take_zero, Nat.zero_add, Nat.reduceAdd, Nat.reduceLT, Nat.reduceLeDiff, Nat.reduceEqDiff, Nat.add_eq, loadA_w, loadW_s, pUn_not, pNil, stepOp, stV_mk, sz4, ag4, sz83, ag83, Tryz.underlying86, stepAny, wantedA_none, readSelf, av_bool, av_sl, Tget_set, u0, hgm, kko, pIA_s Tryz.underlying83 sz4 hm3, r3m, qf, ky_old hk3] <;> rfl))); (focus (first | exact SameH.refl _ | (simp only [sameT, sameS hw]; done)))) | ((with_reducible apply r_drawL); (focus kernel_rfl); (focus kernel_rfl); (focus (exact sd1))) | ((with_reducible (first | apply r_any | apply r_cond)); focus (simp only [↓reduceIte, clsOf, newBlk, allocOp, Fr.ev, ofV, ofA, ofS, nVar, AV.cells, rowOf_mk, put_mk, put_none, upd_mk, keyOf_mk, pureOp, readOp, rLd, someAgg_s, hget_same, pBin, binA, intOp_lss, List.length_cons, List.length_nil, Nat.zero_add, Nat.reduceAdd, Nat.reduceLT, Nat.reduceLeDiff, Nat.reduceEqDiff, and_self, loadA_w, loadW_a, aSt_w, stOut_s, wrAB_row, ovr, List.set_cons_zero, List.set_cons_succ, allCell, ic_i, ic_s, actOp, binA, stepOp, stHeavy, stV_mk, stB_mk, stO_mk, sz81, ag81, zr81, tg81, stepAny, wantedA_none, Tget_set, u28, u29, u30, hks, pIA_s Tryz.underlying43 sz81 hms, f9, ia, ir, iw, ad] <;> rfl)))
        exact r_rq_n (k := s - (m + 1)) (by omega) ⟨_, _, _, m + 1, rfl, rfl, by omega, rfl, by omega, (hlow.set (Nat.le_refl F)).set (Nat.le_refl F), nxt (by rw [atB_of hw1']; intro h; exact absurd h.1 (by decide)), sd8, sd8, sd8, sd8, sd8⟩
      | false =>
        cases w2 with
        | true =>
          repeat' (first | refine st ?_ | ((with_reducible apply (r_drawW (id := 8) (js := [0, 1, 2, 3, 4, 5, 6, 7, 8, 9, 10, 11, 12, 13, 14, 15, 16, 17, 18, 19, 20, 21, 22, 23, 24, 25, 26, 27, 28, 29, 30, 31, 32]))); (focus kernel_rfl); (focus kernel_rfl); (focus (exact sd1))) | ((with_reducible apply d_end); (focus (simp only [List.length_cons, List.length_nil, Nat.add_assoc, Nat.reduceAdd, Nat.zero_add] <;> rfl))) | ((with_reducible apply d_any); (focus rfl); (iterate 2 (focus (simp only [↓reduceIte, wantedA_eq, gBool_t, Bool.not_true, Bool.not_false, clsOf, clsCall, Fr.ev, ofV, ofA, ofS, put_mk, pureOp, readOp, pFA, pFA1, pFA2, rLd, rdAB_row, oneCell_one, hget_hset_ite, pPick, List.length_cons, List.length_nil, List.getElem?_cons_zero, List.getElem?_cons_succ, List.drop_zero, List.drop_succ_cons, List.take_succ_cons, List.take_zero, Nat.zero_add, Nat.reduceAdd, Nat.reduceLT, Nat.reduceLeDiff, Nat.reduceEqDiff, Nat.add_eq, loadA_w, loadW_s, pUn_not, pNil, stepOp, stV_mk, sz4, ag4, sz83, ag83, Tryz.underlying86, stepAny, wantedA_none, readSelf, av_bool, av_sl, Tget_set, u0, hgm, kko, pIA_s Tryz.underlying83 sz4 hm3, pIA_s Tryz.underlying83 sz4 hm5, r3m, r5m, qf, qr, ky_old hk3, ky_old hk5] <;> rfl))); (focus (first | exact SameH.refl _ | (simp only [sameT, sameS hw]; done)))) | ((with_reducible apply r_drawL); (focus kernel_rfl); (focus kernel_rfl); (focus (exact sd1))) | ((with_reducible (first | apply r_any | apply r_cond)); focus (simp only [↓reduceIte, clsOf, newBlk, allocOp, Fr.ev, ofV, ofA, ofS, nVar, AV.cells, rowOf_mk, put_mk, put_none, upd_mk, keyOf_mk, pureOp, readOp, rLd, someAgg_s, hget_same, pBin, binA, intOp_lss, List.length_cons, List.length_nil, Nat.zero_add, Nat.reduceAdd, Nat.reduceLT, Nat.reduceLeDiff, Nat.reduceEqDiff, and_self, loadA_w, loadW_a, aSt_w, stOut_s, wrAB_row, ovr, List.set_cons_zero, List.set_cons_succ, allCell, ic_i, ic_s, actOp, binA, stepOp, stHeavy, stV_mk, stB_mk, stO_mk, sz81, ag81, zr81, tg81, stepAny, wantedA_none, Tget_set, u28, u29, u30, hks, pIA_s Tryz.underlying43 sz81 hms, f9, ia, ir, iw, ad] <;> rfl)))
          exact r_rq_n (k := s - (m + 1)) (by omega) ⟨_, _, _, m + 1, rfl, rfl, by omega, rfl, by omega, (hlow.set (Nat.le_refl F)).set (Nat.le_refl F), nxt (by rw [atB_of hw2']; intro h; exact absurd h.2.1 (by decide)), sd8, sd8, sd8, sd8, sd8⟩
        | false =>
          have kcl := fun (hh : Heap) (hs : SameH h hh) => k_clashA (S := A0) (F := F + 1) hr1 hw1 hr2 hw2 hs
          by_cases hcl : clashP (atL R m) (atL W m) (atL R s) (atL W s)
          rotate_left
          · have hd := dec_f hcl
            repeat' (first | refine st ?_ | ((with_reducible apply (r_drawW (id := 8) (js := [0, 1, 2, 3, 4, 5, 6, 7, 8, 9, 10, 11, 12, 13, 14, 15, 16, 17, 18, 19, 20, 21, 22, 23, 24, 25, 26, 27, 28, 29, 30, 31, 32]))); (focus kernel_rfl); (focus kernel_rfl); (focus (exact sd1))) | ((with_reducible apply d_end); (focus (simp only [List.length_cons, List.length_nil, Nat.add_assoc, Nat.reduceAdd, Nat.zero_add] <;> rfl))) | ((with_reducible apply d_any); (focus rfl); (iterate 2 (focus (simp only [↓reduceIte, wantedA_eq, gBool_t, Bool.not_false, clsOf, clsCall, Fr.ev, evs, put_mk, pureOp, readOp, pFA, pFA1, pFA2, rLd, rdAB_row, oneCell_one, someAgg_s, hget_same, hget_hset_ite, pPick, List.length_cons, List.length_nil, List.getElem?_cons_zero, List.getElem?_cons_succ, List.drop_zero, List.drop_succ_cons, List.take_succ_cons, List.take_zero, Nat.zero_add, Nat.add_zero, Nat.reduceAdd, Nat.reduceLT, Nat.reduceLeDiff, Nat.reduceEqDiff, Nat.add_eq, loadA_w, loadW_a, loadW_s, pUn_not, callTo_s, heavyCall, target, List.nil_append, List.append_nil, pNil, Bool.and_true, stepOp, stHeavy, stV_mk, stO_mk, sz4, ag4, sz43, ag43, sz74, ag74, sz78, Tryz.underlying78, Tryz.underlying81, sz83, ag83, Tryz.underlying86, stepAny, wantedA_none, readSelf, av_bool, av_sl, av_agg, avs_nil, avs_cons, Tget_set, u0, u1, hgm, kko, pIA_s Tryz.underlying83 sz4 hm3, pIA_s Tryz.underlying83 sz4 hm5, r3m, r5m, qf, qr, ky_old hk3, ky_old hk5, ky_old hb1, pIA_s Tryz.underlying43 sz81 hsR, f2, kcl, hd, av_self_L hr1, av_self_L hw1, av_self_L hr2, av_self_L hw2, hS, sameS hw] <;> rfl))); (focus (first | exact SameH.refl _ | (simp only [sameT, sameS hw]; done)))) | ((with_reducible apply r_drawL); (focus kernel_rfl); (focus kernel_rfl); (focus (exact sd1))) | ((with_reducible (first | apply r_any | apply r_cond)); focus (simp only [↓reduceIte, clsOf, newBlk, allocOp, Fr.ev, ofV, ofA, ofS, nVar, AV.cells, rowOf_mk, put_mk, put_none, upd_mk, keyOf_mk, pureOp, readOp, rLd, someAgg_s, hget_same, pBin, binA, intOp_lss, List.length_cons, List.length_nil, Nat.zero_add, Nat.reduceAdd, Nat.reduceLT, Nat.reduceLeDiff, Nat.reduceEqDiff, and_self, loadA_w, loadW_a, aSt_w, stOut_s, wrAB_row, ovr, List.set_cons_zero, List.set_cons_succ, allCell, ic_i, ic_s, actOp, binA, stepOp, stHeavy, stV_mk, stB_mk, stO_mk, sz81, ag81, zr81, tg81, stepAny, wantedA_none, Tget_set, u28, u29, u30, hks, pIA_s Tryz.underlying43 sz81 hms, f9, ia, ir, iw, ad] <;> rfl)))
            exact r_rq_n (k := s - (m + 1)) (by omega) ⟨_, _, _, m + 1, rfl, rfl, by omega, rfl, by omega, (hlow.set (Nat.le_refl F)).set (Nat.le_refl F), nxt (by intro h; exact hcl h.2.2), sd8, sd8, sd8, sd8, sd8⟩
          have hd := dec_t hcl
          have hr : takesB R W b (s : Int) = 5 := tk5 (atB_of hf) (atB_of ht) ⟨m, by rw [Int.toNat_natCast]; exact hms, atB_of hw1', atB_of hw2', by rw [Int.toNat_natCast]; exact hcl⟩
          repeat' (first | refine st ?_ | ((with_reducible apply (r_drawW (id := 8) (js := [0, 1, 2, 3, 4, 5, 6, 7, 8, 9, 10, 11, 12, 13, 14, 15, 16, 17, 18, 19, 20, 21, 22, 23, 24, 25, 26, 27, 28, 29, 30, 31, 32]))); (focus kernel_rfl); (focus kernel_rfl); (focus (exact sd1))) | ((with_reducible apply d_end); (focus (simp only [List.length_cons, List.length_nil, Nat.add_assoc, Nat.reduceAdd, Nat.zero_add] <;> rfl))) | ((with_reducible apply d_any); (focus rfl); (iterate 2 (focus (simp only [↓reduceIte, wantedA_eq, gBool_t, Bool.not_false, clsOf, clsCall, Fr.ev, evs, put_mk, pureOp, readOp, pFA, pFA1, pFA2, rLd, rdAB_row, oneCell_one, someAgg_s, hget_same, hget_hset_ite, pPick, List.length_cons, List.length_nil, List.getElem?_cons_zero, List.getElem?_cons_succ, List.drop_zero, List.drop_succ_cons, List.take_succ_cons, List.take_zero, Nat.zero_add, Nat.add_zero, Nat.reduceAdd, Nat.reduceLT, Nat.reduceLeDiff, Nat.reduceEqDiff, Nat.add_eq, loadA_w, loadW_a, loadW_s, pUn_not, callTo_s, heavyCall, target, List.nil_append, List.append_nil, pNil, Bool.and_true, stepOp, stHeavy, stV_mk, stO_mk, sz4, ag4, sz43, ag43, sz74, ag74, sz78, Tryz.underlying78, Tryz.underlying81, sz83, ag83, Tryz.underlying86, stepAny, wantedA_none, readSelf, av_bool, av_sl, av_agg, avs_nil, avs_cons, Tget_set, u0, u1, hgm, kko, pIA_s Tryz.underlying83 sz4 hm3, pIA_s Tryz.underlying83 sz4 hm5, r3m, r5m, qf, qr, ky_old hk3, ky_old hk5, ky_old hb1, pIA_s Tryz.underlying43 sz81 hsR, f2, kcl, hd, av_self_L hr1, av_self_L hw1, av_self_L hr2, av_self_L hw2, hS, sameS hw] <;> rfl))); (focus (first | exact SameH.refl _ | (simp only [sameT, sameS hw]; done)))) | ((with_reducible apply r_drawL); (focus kernel_rfl); (focus kernel_rfl); (focus (exact sd1))) | ((with_reducible (first | apply r_any | apply r_cond)); focus (simp only [↓reduceIte, clsOf, newBlk, allocOp, Fr.ev, ofV, ofA, ofS, nVar, AV.cells, rowOf_mk, put_mk, put_none, upd_mk, keyOf_mk, pureOp, readOp, rLd, someAgg_s, hget_same, pBin, binA, intOp_lss, List.length_cons, List.length_nil, Nat.zero_add, Nat.reduceAdd, Nat.reduceLT, Nat.reduceLeDiff, Nat.reduceEqDiff, and_self, loadA_w, loadW_a, aSt_w, stOut_s, wrAB_row, ovr, List.set_cons_zero, List.set_cons_succ, allCell, ic_i, ic_s, actOp, binA, stepOp, stHeavy, stV_mk, stB_mk, stO_mk, sz81, ag81, zr81, tg81, stepAny, wantedA_none, Tget_set, u28, u29, u30, hks, pIA_s Tryz.underlying43 sz81 hms, f9, ia, ir, iw] <;> rfl)))
          subst hQ
          refine ret_back (by simp only [Tryz.results66, resultOf, resultsA, resultA, List.toList_toArray, Fr.ev, Tget_set, ↓reduceIte] <;> rfl) ?_
          exact ⟨_, out_eq (by rw [hr]), by repeat (first | exact hS | refine Same.hset hw ?_ (ky_le _ _))⟩
/-- a call that answers a number and leaves the memory -/
def SV (g : FuncId) (v : Int) : FuncId → List AV → St → Out → Prop := fun f _ s o => f = g → o = .val (.int .i64 v) s
set_option maxHeartbeats 16000000 in
theorem breaksA (h : Heap) (F : Nat) (kk : Nat) (s1 s2 s3 s4 s5 l : AV) (b : Bk) (x q f : Int) (R W : List (List Tx)) (w : Nat) (hk : kk < ky F 0) (hg : hget h kk = some (mkRow [l, s3, s4, s5, s1, s2] 0)) (g1 : RowB h F s1 (ints b.ph)) (g2 : RowB h F s2 (ints (hsP b))) (g3 : RowB h F s3 (bools b.fu)) (g4 : RowB h F s4 (bools b.ta)) (g5 : RowB h F s5 (bools b.re)) (gd : Gd w R.length b) (hL : EntP h l R W) (hroom : RoomA l) (hn : R.length ≤ 100) :
    Snd Tryz.prog [] 34 [.ptr kk 0, .agg [.int .i64 x, .int .i64 q, .int .i64 f]] ⟨h, F⟩ [.val (.int .i64 (ruleB R W b ⟨x, q, f⟩)) ⟨h, F⟩] := by
  refine snd_val (by simp [Kin]) fun hw => ?_
  have mxl : maxLen = 9223372036854775807 := by decide
  have l1 := fun (h2 : Heap) => g1.len (h2 := h2) Tryz.underlying84
  simp only [ints_len] at l1
  have lL := fun (h2 : Heap) => hL.len (h2 := h2)
  have kko := fun (a : Nat) => ky_old (a := a) hk
  have hcl : isCell l = true := by
    obtain ⟨X, hX, _⟩ := hL
    exact isCell_L hX
  have sl0 : avEq l l = true := by
    obtain ⟨X, hX, _⟩ := hL
    exact av_self_L hX
  obtain ⟨x1, z1⟩ : ∃ v, decide (x < 0) = v := ⟨_, rfl⟩
  obtain ⟨x2, z2⟩ : ∃ v, decide ((b.ph.length : Int) ≤ x) = v := ⟨_, rfl⟩
  obtain ⟨x3, z3⟩ : ∃ v, (decide (0 ≤ q) && decide (q < (R.length : Int))) = v := ⟨_, rfl⟩
  obtain ⟨x5, z5⟩ : ∃ v, decide (f < 0) = v := ⟨_, rfl⟩
  obtain ⟨x6, z6⟩ : ∃ v, decide (4 < f) = v := ⟨_, rfl⟩
  by_cases hsix : six R b x q f
  · have hr := rl1 (W := W) hsix
    have hc : x1 = true ∨ (x1 = false ∧ x2 = true) ∨ (x1 = false ∧ x2 = false ∧ x3 = false) ∨ (x1 = false ∧ x2 = false ∧ x3 = true ∧ x5 = true) ∨ (x1 = false ∧ x2 = false ∧ x3 = true ∧ x5 = false ∧ x6 = true) := by
      rw [← z1, ← z2, ← z3, ← z5, ← z6]
      simp only [decide_eq_true_eq, decide_eq_false_iff_not, Bool.and_eq_true, Bool.and_eq_false_iff]
      unfold six at hsix
      omega
    rcases hc with rfl | ⟨rfl, rfl⟩ | ⟨rfl, rfl, rfl⟩ | ⟨rfl, rfl, rfl, rfl⟩ | ⟨rfl, rfl, rfl, rfl, rfl⟩
    all_goals
      refine sndQ_body (K := (KA A0)) ka_ok mixed noNum (m := 0) Tryz.func34 ?_
      generalize hQ : retQ _ _ _ _ _ _ = Q0
      refine body_go (c := Tryz.f34.body.getD .skip) (n := 85) rfl rfl (by simp only [↓reduceIte, T.setList, T.set_e, T.set_n, Nat.reduceDiv, Nat.reduceMod, Nat.reduceEqDiff, Nat.zero_add] <;> rfl) ?_
      simp only [Tryz.f34, Option.getD_some]
      repeat' (first | refine st ?_ | ((with_reducible apply (r_drawW (id := 1) (js := [0, 1, 2, 3, 4, 5, 6, 7, 8, 9, 10, 11, 12, 13, 14, 15, 16, 17, 18, 19, 20, 21, 22, 23, 24, 25, 26, 27, 28, 29, 30, 31, 32, 33]))); (focus kernel_rfl); (focus kernel_rfl); (focus (exact sd1))) | ((with_reducible apply d_end); (focus (simp only [List.length_cons, List.length_nil, Nat.reduceAdd, Nat.zero_add] <;> rfl))) | ((with_reducible apply d_any); (focus rfl); (iterate 2 (focus (simp only [↓reduceIte, wantedA_eq, gBool_f, Bool.not_true, Bool.not_false, clsOf, clsCall, Fr.ev, evs, ofV, ofA, ofS, put_mk, pureOp, readOp, pFA, pFA1, pFA2, rLd, rdAB_row, oneCell_one, hget_same, hget_hset_ite, pBin, binA, intOp_lss, intOp_gtr, intOp_geq, pPick, List.length_cons, List.length_nil, List.getElem?_cons_zero, List.getElem?_cons_succ, List.drop_zero, List.drop_succ_cons, List.take_succ_cons, List.take_zero, Nat.zero_add, Nat.add_zero, Nat.reduceAdd, Nat.reduceLT, Nat.reduceLeDiff, Nat.reduceEqDiff, Nat.reduceSub, Nat.add_eq, loadA_w, loadW_s, pUn_not, callTo_s, heavyCall, target, List.nil_append, List.append_nil, pNil, binA, stepOp, stHeavy, stV_mk, stO_mk, T.get_n, T.set_n, T.set_e, Nat.reduceDiv, Nat.reduceMod, sz2, ag2, sz3, ag3, sz43, ag43, sz84, ag84, Tryz.underlying86, Tryz.underlying89, stepAny, wantedA_none, readSelf, av_int, rCall, rLen, hg, kko, l1, lL, z1, z2, z3, z5, z6, k_named, g1.self, sl0] <;> rfl))); (focus (first | exact SameH.refl _ | (simp only [sameT, sameS hw]; done)))) | ((with_reducible apply r_drawL); (focus kernel_rfl); (focus kernel_rfl); (focus (exact sd1))) | ((with_reducible (first | apply r_any | apply r_cond)); focus (simp only [↓reduceIte, clsOf, newBlk, allocOp, Fr.ev, ofV, ofA, ofS, nVar, AV.cells, rowOf_mk, put_mk, upd_mk, keyOf_mk, pureOp, Nat.add_zero, Nat.reduceLT, Nat.reduceEqDiff, Nat.reduceSub, stepOp, stV_mk, stB_mk, T.get_n, T.set_n, T.set_e, Nat.reduceDiv, Nat.reduceMod, stepAny, wantedA_none] <;> rfl)))
      subst hQ
      refine ret_back (by simp only [Tryz.results34, resultOf, resultsA, resultA, List.toList_toArray, Fr.ev, T.get_n, Nat.reduceDiv, Nat.reduceMod, Nat.reduceSub, Nat.reduceEqDiff, ↓reduceIte] <;> rfl) ?_
      exact ⟨_, out_eq (by rw [hr]), by repeat (first | exact Same.base _ _ _ | refine Same.hset hw ?_ (ky_le _ _))⟩
  have hz : x1 = false ∧ x2 = false ∧ x3 = true ∧ x5 = false ∧ x6 = false := by
    rw [← z1, ← z2, ← z3, ← z5, ← z6]
    simp only [decide_eq_false_iff_not, Bool.and_eq_true, decide_eq_true_eq]
    unfold six at hsix
    omega
  obtain ⟨rfl, rfl, rfl, rfl, rfl⟩ := hz
  obtain ⟨j, rfl⟩ : ∃ j : Nat, x = j := ⟨x.toNat, by unfold six at hsix; omega⟩
  obtain ⟨s, rfl⟩ : ∃ s : Nat, q = s := ⟨q.toNat, by unfold six at hsix; omega⟩
  have hj : j < b.ph.length := by unfold six at hsix; omega
  have hsR : s < R.length := by unfold six at hsix; omega
  have hj2 : j < (hsP b).length := by rw [hsP_len gd, ← gd.ph]; exact hj
  obtain ⟨p, hp⟩ : ∃ p, b.ph[j]? = some p := ⟨_, List.getElem?_eq_getElem hj⟩
  obtain ⟨e, he⟩ : ∃ e, b.hs[j]? = some e := ⟨_, List.getElem?_eq_getElem (by rw [gd.hs, ← gd.ph]; exact hj)⟩
  have hap := atI_of hp
  have hae := atI_of he
  have p4 := gd.p4 p (List.mem_of_getElem? hp)
  have e0 := gd.h0 j p e hp he
  have hep := hsP_at hp he
  obtain ⟨e', he'⟩ : ∃ e', e' = (if p = 0 then -1 else e) := ⟨_, rfl⟩
  rw [← he'] at hep
  obtain ⟨k1, eo1, cap1, hk1, rfl, r1⟩ := g1.pos (by rw [ints_len]; omega)
  obtain ⟨k2, eo2, cap2, hk2, rfl, r2⟩ := g2.pos (by rw [ints_len]; omega)
  simp only [ints_len] at hg l1
  have q1 := rd_a (ints_at hp)
  have q2 := rd_a (ints_at hep)
  have ar := intOp_add (P := Tryz.prog) (t := 3) (show inR (p + 1) by unfold inR; omega)
  have rm := intOp_remI (P := Tryz.prog) (t := 3) (a := p + 1) (b := 5) (by omega) (by decide)
  obtain ⟨y1, v1⟩ : ∃ v, (f != (p + 1) % 5) = v := ⟨_, rfl⟩
  obtain ⟨y2, v2⟩ : ∃ v, (e' != -1) = v := ⟨_, rfl⟩
  obtain ⟨y3, v3⟩ : ∃ v, (e' != (s : Int)) = v := ⟨_, rfl⟩
  have hep2 : (p = 0 ∧ e' = -1) ∨ (p ≠ 0 ∧ e' = e ∧ 0 ≤ e) := by
    by_cases h0 : p = 0
    · exact .inl ⟨h0, by rw [he', if_pos h0]⟩
    · exact .inr ⟨h0, by rw [he', if_neg h0], e0 h0⟩
  by_cases h2 : two b (j : Int) s f
  · have hr := rl2 (W := W) hsix h2
    have hc : y1 = true ∨ (y1 = false ∧ y2 = true ∧ y3 = true) := by
      rw [← v1, ← v2, ← v3]
      simp only [bne_iff_ne, bne_eq_false_iff_eq]
      unfold two at h2
      rw [hap, hae] at h2
      omega
    rcases hc with rfl | ⟨rfl, rfl, rfl⟩
    all_goals
      have t1 : True := trivial
      refine sndQ_body (K := (KA A0)) ka_ok mixed noNum (m := 0) Tryz.func34 ?_
      generalize hQ : retQ _ _ _ _ _ _ = Q0
      refine body_go (c := Tryz.f34.body.getD .skip) (n := 85) rfl rfl (by simp only [↓reduceIte, T.setList, T.set_e, T.set_n, Nat.reduceDiv, Nat.reduceMod, Nat.reduceEqDiff, Nat.zero_add] <;> rfl) ?_
      simp only [Tryz.f34, Option.getD_some]
      repeat' (first | refine st ?_ | ((with_reducible apply (r_drawW (id := 1) (js := [0, 1, 2, 3, 4, 5, 6, 7, 8, 9, 10, 11, 12, 13, 14, 15, 16, 17, 18, 19, 20, 21, 22, 23, 24, 25, 26, 27, 28, 29, 30, 31, 32, 33]))); (focus kernel_rfl); (focus kernel_rfl); (focus (exact sd1))) | ((with_reducible apply d_end); (focus (simp only [List.length_cons, List.length_nil, Nat.reduceAdd, Nat.zero_add] <;> rfl))) | ((with_reducible apply d_any); (focus rfl); (iterate 2 (focus (simp only [↓reduceIte, wantedA_eq, gBool_t, gBool_f, Bool.not_true, Bool.not_false, clsOf, clsCall, Fr.ev, evs, ofV, ofA, ofS, put_mk, pureOp, readOp, pFA, pFA1, pFA2, rLd, rdAB_row, oneCell_one, hget_same, hget_hset_ite, pBin, binA, intOp_neq, intOp_lss, intOp_gtr, intOp_geq, pPick, List.length_cons, List.length_nil, List.getElem?_cons_zero, List.getElem?_cons_succ, List.drop_zero, List.drop_succ_cons, List.take_succ_cons, List.take_zero, Nat.zero_add, Nat.add_zero, Nat.reduceAdd, Nat.reduceLT, Nat.reduceLeDiff, Nat.reduceEqDiff, Nat.reduceSub, Nat.add_eq, loadA_w, loadW_s, pUn_not, callTo_s, heavyCall, target, List.nil_append, List.append_nil, pNil, binA, Int.reduceNeg, stepOp, stHeavy, stV_mk, stO_mk, T.get_n, T.set_n, T.set_e, Nat.reduceDiv, Nat.reduceMod, sz2, ag2, sz3, ag3, sz38, ag38, sz43, ag43, sz84, ag84, Tryz.underlying86, Tryz.underlying89, stepAny, wantedA_none, readSelf, av_int, av_sl, rCall, rLen, hg, kko, l1, lL, z1, z2, z3, z5, z6, k_named, gBool_u, pIA_s Tryz.underlying84 sz3 hj, pIA_s Tryz.underlying38 sz2 hj2, r1, r2, q1, q2, ky_old hk1, ky_old hk2, ar, rm, v1, v2, v3, sl0] <;> rfl))); (focus (first | exact SameH.refl _ | (simp only [sameT, sameS hw]; done)))) | ((with_reducible apply (r_drawW (id := 3) (js := [0, 1, 2, 3, 4, 5, 6, 7, 8, 9, 10]))); (focus kernel_rfl); (focus kernel_rfl); (focus (exact sd1))) | ((with_reducible apply d_end); (focus (simp only [List.length_cons, List.length_nil, Nat.add_assoc, Nat.reduceAdd, Nat.zero_add] <;> rfl))) | ((with_reducible apply (r_drawW (id := 4) (js := [0, 1, 2, 3, 4, 5, 6, 7, 8, 9, 10, 11, 12, 13, 14, 15, 16, 17, 18, 19, 20, 21, 22, 23, 24, 25, 26, 27]))); (focus kernel_rfl); (focus kernel_rfl); (focus (exact sd1))) | ((with_reducible apply d_end); (focus (simp only [List.length_cons, List.length_nil, Nat.add_assoc, Nat.reduceAdd, Nat.zero_add] <;> rfl))) | ((with_reducible apply r_drawL); (focus kernel_rfl); (focus kernel_rfl); (focus (exact sd1))) | ((with_reducible (first | apply r_any | apply r_cond)); focus (simp only [↓reduceIte, clsOf, newBlk, allocOp, Fr.ev, ofV, ofA, ofS, nVar, AV.cells, rowOf_mk, put_mk, upd_mk, keyOf_mk, pureOp, Nat.add_zero, Nat.reduceLT, Nat.reduceEqDiff, Nat.reduceSub, stepOp, stV_mk, stB_mk, T.get_n, T.set_n, T.set_e, Nat.reduceDiv, Nat.reduceMod, stepAny, wantedA_none] <;> rfl)))
      subst hQ
      refine ret_back (by simp only [Tryz.results34, resultOf, resultsA, resultA, List.toList_toArray, Fr.ev, T.get_n, Nat.reduceDiv, Nat.reduceMod, Nat.reduceSub, Nat.reduceEqDiff, ↓reduceIte] <;> rfl) ?_
      exact ⟨_, out_eq (by rw [hr]), by repeat (first | exact Same.base _ _ _ | refine Same.hset hw ?_ (ky_le _ _))⟩
  have hc : y1 = false ∧ (y2 = false ∨ (y2 = true ∧ y3 = false)) := by
    rw [← v1, ← v2, ← v3]
    simp only [bne_iff_ne, bne_eq_false_iff_eq]
    unfold two at h2
    rw [hap, hae] at h2
    omega
  obtain ⟨rfl, hc⟩ := hc
  by_cases h3 : f = 1
  rotate_left
  · have hr := rl0 (W := W) hsix h2 h3
    have t1 : (f == 1) = false := beq_eq_false_iff_ne.2 h3
    rcases hc with rfl | ⟨rfl, rfl⟩
    all_goals
      refine sndQ_body (K := (KA A0)) ka_ok mixed noNum (m := 0) Tryz.func34 ?_
      generalize hQ : retQ _ _ _ _ _ _ = Q0
      refine body_go (c := Tryz.f34.body.getD .skip) (n := 85) rfl rfl (by simp only [↓reduceIte, T.setList, T.set_e, T.set_n, Nat.reduceDiv, Nat.reduceMod, Nat.reduceEqDiff, Nat.zero_add] <;> rfl) ?_
      simp only [Tryz.f34, Option.getD_some]
      repeat' (first | refine st ?_ | ((with_reducible apply (r_drawW (id := 1) (js := [0, 1, 2, 3, 4, 5, 6, 7, 8, 9, 10, 11, 12, 13, 14, 15, 16, 17, 18, 19, 20, 21, 22, 23, 24, 25, 26, 27, 28, 29, 30, 31, 32, 33]))); (focus kernel_rfl); (focus kernel_rfl); (focus (exact sd1))) | ((with_reducible apply d_end); (focus (simp only [List.length_cons, List.length_nil, Nat.reduceAdd, Nat.zero_add] <;> rfl))) | ((with_reducible apply d_any); (focus rfl); (iterate 2 (focus (simp only [↓reduceIte, wantedA_eq, gBool_t, gBool_f, Bool.not_true, Bool.not_false, clsOf, clsCall, Fr.ev, evs, ofV, ofA, ofS, put_mk, pureOp, readOp, pFA, pFA1, pFA2, rLd, rdAB_row, oneCell_one, hget_same, hget_hset_ite, pBin, binA, intOp_neq, intOp_lss, intOp_gtr, intOp_geq, pPick, List.length_cons, List.length_nil, List.getElem?_cons_zero, List.getElem?_cons_succ, List.drop_zero, List.drop_succ_cons, List.take_succ_cons, List.take_zero, Nat.zero_add, Nat.add_zero, Nat.reduceAdd, Nat.reduceLT, Nat.reduceLeDiff, Nat.reduceEqDiff, Nat.reduceSub, Nat.add_eq, loadA_w, loadW_s, pUn_not, callTo_s, heavyCall, target, List.nil_append, List.append_nil, pNil, binA, Int.reduceNeg, stepOp, stHeavy, stV_mk, stO_mk, T.get_n, T.set_n, T.set_e, Nat.reduceDiv, Nat.reduceMod, sz2, ag2, sz3, ag3, sz38, ag38, sz43, ag43, sz84, ag84, Tryz.underlying86, Tryz.underlying89, stepAny, wantedA_none, readSelf, av_int, av_sl, rCall, rLen, hg, kko, l1, lL, z1, z2, z3, z5, z6, k_named, pIA_s Tryz.underlying84 sz3 hj, pIA_s Tryz.underlying38 sz2 hj2, r1, r2, q1, q2, ky_old hk1, ky_old hk2, ar, rm, v1, v2, v3, sl0] <;> rfl))); (focus (first | exact SameH.refl _ | (simp only [sameT, sameS hw]; done)))) | ((with_reducible apply (r_drawW (id := 3) (js := [0, 1, 2, 3, 4, 5, 6, 7, 8, 9, 10]))); (focus kernel_rfl); (focus kernel_rfl); (focus (exact sd1))) | ((with_reducible apply d_end); (focus (simp only [List.length_cons, List.length_nil, Nat.add_assoc, Nat.reduceAdd, Nat.zero_add] <;> rfl))) | ((with_reducible apply (r_drawW (id := 4) (js := [0, 1, 2, 3, 4, 5, 6, 7, 8, 9, 10, 11, 12, 13, 14, 15, 16, 17, 18, 19, 20, 21, 22, 23, 24, 25, 26, 27]))); (focus kernel_rfl); (focus kernel_rfl); (focus (exact sd1))) | ((with_reducible apply d_end); (focus (simp only [List.length_cons, List.length_nil, Nat.add_assoc, Nat.reduceAdd, Nat.zero_add] <;> rfl))) | ((with_reducible apply r_drawL); (focus kernel_rfl); (focus kernel_rfl); (focus (exact sd1))) | ((with_reducible (first | apply r_any | apply r_cond)); focus (simp only [↓reduceIte, clsOf, newBlk, allocOp, Fr.ev, ofV, ofA, ofS, nVar, AV.cells, rowOf_mk, put_mk, upd_mk, keyOf_mk, pureOp, readOp, pFA, pFA1, pFA2, rLd, rdAB_row, oneCell_one, hget_same, pBin, binA, intOp_eql, List.length_cons, List.length_nil, List.getElem?_cons_zero, List.getElem?_cons_succ, List.drop_zero, List.drop_succ_cons, List.take_succ_cons, List.take_zero, Nat.zero_add, Nat.add_zero, Nat.reduceAdd, Nat.reduceLT, Nat.reduceLeDiff, Nat.reduceEqDiff, Nat.reduceSub, Nat.add_eq, loadA_w, loadW_s, binA, stepOp, stV_mk, stB_mk, T.get_n, T.set_n, T.set_e, Nat.reduceDiv, Nat.reduceMod, sz3, ag3, Tryz.underlying89, stepAny, wantedA_none, t1] <;> rfl)))
      subst hQ
      refine ret_back (by simp only [Tryz.results34, resultOf, resultsA, resultA, List.toList_toArray, Fr.ev, T.get_n, Nat.reduceDiv, Nat.reduceMod, Nat.reduceSub, Nat.reduceEqDiff, ↓reduceIte] <;> rfl) ?_
      exact ⟨_, out_eq (by rw [hr]), by repeat (first | exact Same.base _ _ _ | refine Same.hset hw ?_ (ky_le _ _))⟩
  subst h3
  have hr := rlt (R := R) (W := W) hsix h2 rfl
  have t1 : True := trivial
  obtain ⟨v, hv⟩ : ∃ v, takesB R W b (s : Int) = v := ⟨_, rfl⟩
  have hSB : SameH h (hset h (ky F 0) (mkRow [.int .i64 (j : Int), .int .i64 (s : Int), .int .i64 1] 0)) := ((Low.refl F h).set (Nat.le_refl F)).same hw
  have low : Low F h (hset h (ky F 0) (mkRow [.int .i64 (j : Int), .int .i64 (s : Int), .int .i64 1] 0)) := (Low.refl F h).set (Nat.le_refl F)
  have up : ∀ {k : Nat}, k < ky F 0 → k < ky (F + 1) 0 := fun hk => Nat.lt_of_lt_of_le hk (ky_mono (Nat.le_succ F))
  have mvB : ∀ {a : AV} {L : List AV}, RowB h F a L → RowB (hset h (ky F 0) (mkRow [.int .i64 (j : Int), .int .i64 (s : Int), .int .i64 1] 0)) (F + 1) a L := fun g => g.imp id fun ⟨k, eo, cap, h1, h2, h3⟩ => ⟨k, eo, cap, up h1, h2, (low k h1).trans h3⟩
  have tk := takesA (hset h (ky F 0) (mkRow [.int .i64 (j : Int), .int .i64 (s : Int), .int .i64 1] 0)) (F + 1) kk _ _ s3 s4 s5 l b s R W w (up hk) ((low kk hk).trans hg) (mvB g3) (mvB g4) (mvB g5) gd (hL.same hSB) hroom hn hsR
  rw [hv] at tk
  rw [hv] at hr
  rcases hc with rfl | ⟨rfl, rfl⟩
  all_goals
    refine sndQ_body (K := (KA (SV 66 v))) ka_ok mixed noNum (m := 0) Tryz.func34 ?_
    generalize hQ : retQ _ _ _ _ _ _ = Q0
    refine body_go (c := Tryz.f34.body.getD .skip) (n := 85) rfl rfl (by simp only [↓reduceIte, T.setList, T.set_e, T.set_n, Nat.reduceDiv, Nat.reduceMod, Nat.reduceEqDiff, Nat.zero_add] <;> rfl) ?_
    simp only [Tryz.f34, Option.getD_some]
    repeat' (first | refine st ?_ | ((with_reducible apply (r_drawW (id := 1) (js := [0, 1, 2, 3, 4, 5, 6, 7, 8, 9, 10, 11, 12, 13, 14, 15, 16, 17, 18, 19, 20, 21, 22, 23, 24, 25, 26, 27, 28, 29, 30, 31, 32, 33]))); (focus kernel_rfl); (focus kernel_rfl); (focus (exact sd1))) | ((with_reducible apply d_end); (focus (simp only [List.length_cons, List.length_nil, Nat.reduceAdd, Nat.zero_add] <;> rfl))) | ((with_reducible apply d_any); (focus rfl); (iterate 2 (focus (simp only [↓reduceIte, wantedA_eq, gBool_t, gBool_f, Bool.not_true, Bool.not_false, clsOf, clsCall, Fr.ev, evs, ofV, ofA, ofS, put_mk, pureOp, readOp, pFA, pFA1, pFA2, rLd, rdAB_row, oneCell_one, hget_same, hget_hset_ite, pBin, binA, intOp_neq, intOp_lss, intOp_gtr, intOp_geq, pPick, List.length_cons, List.length_nil, List.getElem?_cons_zero, List.getElem?_cons_succ, List.drop_zero, List.drop_succ_cons, List.take_succ_cons, List.take_zero, Nat.zero_add, Nat.add_zero, Nat.reduceAdd, Nat.reduceLT, Nat.reduceLeDiff, Nat.reduceEqDiff, Nat.reduceSub, Nat.add_eq, loadA_w, loadW_s, pUn_not, callTo_s, heavyCall, target, List.nil_append, List.append_nil, pNil, binA, decide_false, Int.reduceLT, Int.reduceNeg, stepOp, stHeavy, stV_mk, stO_mk, T.get_n, T.set_n, T.set_e, Nat.reduceDiv, Nat.reduceMod, sz2, ag2, sz3, ag3, sz38, ag38, sz43, ag43, sz84, ag84, Tryz.underlying86, Tryz.underlying89, stepAny, wantedA_none, readSelf, av_int, av_sl, rCall, rLen, hg, kko, l1, lL, z1, z2, z3, k_named, pIA_s Tryz.underlying84 sz3 hj, pIA_s Tryz.underlying38 sz2 hj2, r1, r2, q1, q2, ky_old hk1, ky_old hk2, ar, rm, v1, v2, v3, sl0] <;> rfl))); (focus (first | exact SameH.refl _ | (simp only [sameT, sameS hw]; done)))) | ((with_reducible apply (r_drawW (id := 3) (js := [0, 1, 2, 3, 4, 5, 6, 7, 8, 9, 10]))); (focus kernel_rfl); (focus kernel_rfl); (focus (exact sd1))) | ((with_reducible apply d_end); (focus (simp only [List.length_cons, List.length_nil, Nat.add_assoc, Nat.reduceAdd, Nat.zero_add] <;> rfl))) | ((with_reducible apply (r_drawW (id := 4) (js := [0, 1, 2, 3, 4, 5, 6, 7, 8, 9, 10, 11, 12, 13, 14, 15, 16, 17, 18, 19, 20, 21, 22, 23, 24, 25, 26, 27]))); (focus kernel_rfl); (focus kernel_rfl); (focus (exact sd1))) | ((with_reducible apply d_end); (focus (simp only [List.length_cons, List.length_nil, Nat.add_assoc, Nat.reduceAdd, Nat.zero_add] <;> rfl))) | ((with_reducible apply r_drawL); (focus kernel_rfl); (focus kernel_rfl); (focus (exact sd1))) | ((with_reducible (first | apply r_any | apply r_cond)); focus (simp only [↓reduceIte, clsOf, clsCall, newBlk, allocOp, Fr.ev, evs, ofV, ofA, ofS, nVar, AV.cells, rowOf_mk, put_mk, upd_mk, keyOf_mk, pureOp, readOp, pFA, pFA1, pFA2, rLd, rdAB_row, oneCell_one, hget_same, pBin, binA, intOp_eql, List.length_cons, List.length_nil, List.getElem?_cons_zero, List.getElem?_cons_succ, List.drop_zero, List.drop_succ_cons, List.take_succ_cons, List.take_zero, Nat.zero_add, Nat.add_zero, Nat.reduceAdd, Nat.reduceLT, Nat.reduceLeDiff, Nat.reduceEqDiff, Nat.reduceSub, Nat.add_eq, loadA_w, loadW_s, callTo_s, heavyCall, target, List.nil_append, List.append_nil, binA, beq_self_eq_true, stepOp, stHeavy, stV_mk, stB_mk, T.get_n, T.set_n, T.set_e, Nat.reduceDiv, Nat.reduceMod, sz2, ag2, sz3, ag3, Tryz.underlying89, stepAny, wantedA_none] <;> rfl)))
    refine r_callC (S := SV 66 v) (f := 66) (by first | rfl | (simp only [wantedA_none, Tget_set])) (by simp only [callOuts, callTo_s, target, evs, Fr.ev, T.get_n, Nat.reduceEqDiff, Nat.reduceDiv, Nat.reduceMod, Nat.reduceSub, ↓reduceIte, List.nil_append, List.append_nil]; exact kc_miss rfl) ?_ ?_
    · exact ⟨_, tk, fun o ho _ => List.mem_singleton.1 ho⟩
    intro oo ho
    have ho2 : oo = .val (.int .i64 v) ⟨(hset h (ky F 0) (mkRow [.int .i64 (j : Int), .int .i64 (s : Int), .int .i64 1] 0)), F + 1⟩ := ho rfl
    subst ho2
    refine ⟨_, by simp only [put_mk, Nat.reduceLT, ↓reduceIte] <;> rfl, ?_⟩
    repeat' (first | refine st ?_ | ((with_reducible apply (r_drawW (id := 1) (js := [0, 1, 2, 3, 4, 5, 6, 7, 8, 9, 10, 11, 12, 13, 14, 15, 16, 17, 18, 19, 20, 21, 22, 23, 24, 25, 26, 27, 28, 29, 30, 31, 32, 33]))); (focus kernel_rfl); (focus kernel_rfl); (focus (exact sd1))) | ((with_reducible apply d_end); (focus (simp only [List.length_cons, List.length_nil, Nat.add_assoc, Nat.reduceAdd, Nat.zero_add] <;> rfl))) | ((with_reducible apply (r_drawW (id := 3) (js := [0, 1, 2, 3, 4, 5, 6, 7, 8, 9, 10]))); (focus kernel_rfl); (focus kernel_rfl); (focus (exact sd1))) | ((with_reducible apply d_end); (focus (simp only [List.length_cons, List.length_nil, Nat.add_assoc, Nat.reduceAdd, Nat.zero_add] <;> rfl))) | ((with_reducible apply (r_drawW (id := 4) (js := [0, 1, 2, 3, 4, 5, 6, 7, 8, 9, 10, 11, 12, 13, 14, 15, 16, 17, 18, 19, 20, 21, 22, 23, 24, 25, 26, 27]))); (focus kernel_rfl); (focus kernel_rfl); (focus (exact sd1))) | ((with_reducible apply d_end); (focus (simp only [List.length_cons, List.length_nil, Nat.add_assoc, Nat.reduceAdd, Nat.zero_add] <;> rfl))) | ((with_reducible apply r_drawL); (focus kernel_rfl); (focus kernel_rfl); (focus (exact sd1))))
    subst hQ
    refine ret_back (by simp only [Tryz.results34, resultOf, resultsA, resultA, List.toList_toArray, Fr.ev, Tget_set, ↓reduceIte] <;> rfl) ?_
    exact ⟨_, out_eq (by rw [hr]), by repeat (first | exact Same.base _ _ _ | refine Same.hset hw ?_ (ky_le _ _))⟩

end Go.Proofs.YtfhgiadogeephaaGreatDoor

