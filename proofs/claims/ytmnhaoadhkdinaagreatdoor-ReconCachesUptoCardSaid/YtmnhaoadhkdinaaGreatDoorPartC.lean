/- A part of the proof of the law ReconCaches. CONDITIONS: those that each theorem names. -/
import Derived.Test.YtmnhaoadhkdinaaGreatDoorEngineA
import Derived.Test.YtmnhaoadhkdinaaGreatDoorEngineB
import Derived.Test.YtmnhaoadhkdinaaGreatDoorEngineC
import Derived.Test.YtmnhaoadhkdinaaGreatDoorEngineD
import Derived.Test.YtmnhaoadhkdinaaGreatDoorPartA
import Derived.Test.YtmnhaoadhkdinaaGreatDoorPartB
import Derived.Test.YtmnhaoadhkdinaaGreatDoorRC17
import Derived.Test.YtmnhaoadhkdinaaGreatDoorRC18
namespace Go.Proofs.YtmnhaoadhkdinaaGreatDoor
open Go Go.Ai
set_option maxRecDepth 100000

theorem cks_req {c t how : AV} {n a r w i : AV} {c' t' n' a' : AV} (ok : cksOk ksP [c, t, n, a, how, r, w, i]) (h1 : ckOk (.i .i64) c') (h2 : ckOk (.i .u64) t') (h3 : ckOk .s n') (h4 : ckOk .l a') : cksOk ksP [c', t', n', a', how, r, w, i] := by
  obtain ⟨_, _, e0, k0, _, _, e1, k1, _, _, e2, k2, _, _, e3, k3, h⟩ := ok
  cases e0
  cases e1
  cases e2
  cases e3
  exact ⟨_, _, rfl, h1, _, _, rfl, h2, _, _, rfl, h3, _, _, rfl, h4, h⟩
set_option maxHeartbeats 16000000 in
theorem getA (h : Heap) (F kc k A' B' : Nat) (c t : Int) (n : Tx) (a m l : AV) (y z : Int) (V : List (List AV)) (Q : Nat → Nat → Prop) (G : Nat) (X : List (List AV)) (L : List PV) (hkc : kc < ky F 0) (hk : k < ky F 0) (hne : kc ≠ k) (hg : hget h kc = some (mkRow [m, l, .int .i64 y, .int .i64 z] 0)) (g : LS true h k 8 l X) (kp : Kept Q G h X L) (hG : G ≤ F) (hQk : ∀ A B, Q A B → OutK kc A B) (hA : LstI A' B' h ksV a V) (hAc : OutK kc A' B') (hAB : B' ≤ F) (hok : ckOk (.i .i64) (.int .i64 c) ∧ ckOk (.i .u64) (.int .u64 t) ∧ ckOk .s (.str n)) (hV : V.length ≤ 100000) (hsm : ∀ q ∈ L, smallP 100000 q) (hL : L.length ≤ 1024) (hy : 0 ≤ y ∧ y ≤ 100000) (hz : 0 ≤ z ∧ z ≤ 100000) :
    SndQ Tryz.prog [] 14 [.ptr kc 0, .agg [.int .i64 c, .int .u64 t, .str n, a]] ⟨h, F⟩ (fun o => ∃ x' h' F', o = .val (.tup [.agg x', .bool (dec (fndP n V L ≠ none))]) ⟨h', F'⟩ ∧ F + 1 ≤ F' ∧ hget h' kc = some (mkRow [m, l, .int .i64 (y + if fndP n V L = none then 0 else 1), .int .i64 (z + if fndP n V L = none then 1 else 0)] 0) ∧ PasI (F + 1) F' h' x' (getP c t n V L) ∧ LowK kc F h h' ∧ WrX h' x') := by
  have mxl : maxLen = 9223372036854775807 := by decide
  refine sndQ_wf fun hw => ?_
  have iA := isCell_L hA.p
  have kk := fun (a : Nat) => ky_old (a := a) hkc
  have kkr := fun (a : Nat) => ky_oldr (a := a) hkc
  have L1 : Low F h (hset (hset h (ky F 0) (mkRow [.int .i64 c, .int .u64 t, .str n, a] 0)) (ky F 1) (mkRow [.int .i64 0, .int .u64 0, .str [], .nils, .int .i64 0, .nils, .nils, .nils] 0)) := ((Low.refl F h).set (Nat.le_refl F)).set (Nat.le_refl F)
  have S1 : SameH h (hset (hset h (ky F 0) (mkRow [.int .i64 c, .int .u64 t, .str n, a] 0)) (ky F 1) (mkRow [.int .i64 0, .int .u64 0, .str [], .nils, .int .i64 0, .nils, .nils, .nils] 0)) := L1.same hw
  have hXL : X.length = L.length := kp.1
  have hlX : LstP h ksP l X := g.lst kp.ok (by omega)
  have il := g.cell
  have hgB : hget (hset (hset h (ky F 0) (mkRow [.int .i64 c, .int .u64 t, .str n, a] 0)) (ky F 1) (mkRow [.int .i64 0, .int .u64 0, .str [], .nils, .int .i64 0, .nils, .nils, .nils] 0)) kc = some (mkRow [m, l, .int .i64 y, .int .i64 z] 0) := (L1 kc hkc).trans hg
  have kf := k_fi (S := SC) (F := F + 1) (h := (hset (hset h (ky F 0) (mkRow [.int .i64 c, .int .u64 t, .str n, a] 0)) (ky F 1) (mkRow [.int .i64 0, .int .u64 0, .str [], .nils, .int .i64 0, .nils, .nils, .nils] 0))) (k := kc) (c := c) (t := t) (n := n) (a := a) (Nat.lt_of_lt_of_le hkc (ky_mono (Nat.le_succ F))) (x := m) (l := l) (y := .int .i64 y) (z := .int .i64 z) (by rw [hgB]; rfl) (hA.p.same S1) (hlX.same S1) (kp.low (L1.down hG)) (Nat.le_succ_of_le hG)
  have ady := intOp_add (P := Tryz.prog) (t := 3) (show inR (y + 1) by unfold inR; omega)
  have adz := intOp_add (P := Tryz.prog) (t := 3) (show inR (z + 1) by unfold inR; omega)
  cases hf : fndP n V L with
  | none =>
    rw [hf] at kf
    refine sndQ_body (K := (KR SC)) kr_ok mixed noNum (m := 0) Tryz.func14 ?_
    generalize hQ : retQ _ _ _ _ _ _ = Q0
    refine body_go (c := Tryz.f14.body.getD .skip) (n := 47) rfl rfl (by simp only [↓reduceIte, T.setList, T.set_e, T.set_n, Nat.reduceDiv, Nat.reduceMod, Nat.reduceEqDiff, Nat.zero_add] <;> rfl) ?_
    simp only [Tryz.f14, Option.getD_some]
    repeat' (first | refine st ?_ | ((with_reducible (first | apply r_any | apply r_cond)); focus (simp only [↓reduceIte, clsOf, clsCall, newBlk, allocOp, Fr.ev, evs, evParts, ofV, ofA, ofS, nVar, AV.cells, rowOf_mk, put_mk, put_none, upd_mk, keyOf_mk, ky_inj, pureOp, readOp, pFA, pFA1, pFA2, rLd, rdAB_row, oneCell_one, someAgg_s, hget_same, hget_hset_ite, pBin, binA, intOp_lss, List.length_cons, List.length_nil, List.getElem?_cons_zero, List.getElem?_cons_succ, List.drop_zero, List.drop_succ_cons, List.take_succ_cons, List.take_zero, Nat.zero_add, Nat.add_zero, Nat.reduceAdd, Nat.reduceLT, Nat.reduceLeDiff, Nat.reduceEqDiff, Nat.reduceSub, and_self, Nat.add_eq, loadA_w, loadW_a, loadW_s, aSt_w, stOut_s, wrAB_row, ovr, List.set_cons_zero, List.set_cons_succ, allCell, ic_i, ic_s, ic_ns, callTo_s, heavyCall, target, actOp, List.nil_append, List.append_nil, pNil, pBuild, pBuild2, fieldsOk, buildParts, binA, eqIn, eqGuardOk, decide_true, Int.reduceLT, Int.reduceNeg, stepOp, stHeavy, stV_mk, stB_mk, stO_mk, T.get_n, T.set_n, T.set_e, Nat.reduceDiv, Nat.reduceMod, sz3, ag3, sz26, ag26, sz31, sz32, sz34, zr34, tg34, Tryz.underlying34, Tryz.underlying39, Tryz.underlying89, stepAny, wantedA_none, kk, kkr, kf, idxP, hg, adz] <;> rfl)))
    subst hQ
    refine ret_back (by simp only [Tryz.results14, resultOf, resultsA, resultA, List.toList_toArray, Fr.ev, T.get_n, Nat.reduceDiv, Nat.reduceMod, Nat.reduceSub, Nat.reduceEqDiff, ↓reduceIte, loadA_w, hget_same] <;> rfl) ?_
    refine ⟨_, _, _, out_eq (by rw [dec_f (p := (none : Option Nat) ≠ none) fun h => h rfl]), Nat.le_refl _, by rw [hget_hset, if_neg (by rw [kk]; exact id), hget_hset, if_pos rfl, if_pos rfl, if_pos rfl, Int.add_zero], ?_, ((L1.k).set).own (Nat.le_refl F), .zero⟩
    rw [getP_none hf]
    exact zeroP_I
  | some i =>
    rw [hf] at kf
    have hi := fnd_lt hf
    obtain ⟨bb, o, eo, cap, a0, r0, w0, i0, q, el, hbb, hq, rd0, hA0, hR0, hW0, hI0⟩ := pas_at hw hlX kp hi
    have hbk : bb = k := g.key el
    subst hbk
    subst el
    have hlt : decide ((i : Int) < 0) = false := decide_eq_false (by omega)
    have hgt : True := trivial
    obtain ⟨A0, B0, hQ0, hB0, hP0⟩ := kp.2 i X[i] q (List.getElem?_eq_getElem (by omega)) hq
    have L2 : LowK kc F h (hset (hset (hset h (ky F 0) (mkRow [.int .i64 c, .int .u64 t, .str n, a] 0)) (ky F 1) (mkRow [.int .i64 0, .int .u64 0, .str [], .nils, .int .i64 0, .nils, .nils, .nils] 0)) kc (mkRow [m, .slice bb o eo L.length cap, .int .i64 (y + 1), .int .i64 z] 0)) := (L1.k).set
    have rd2 : rdAB (hget (hset (hset (hset h (ky F 0) (mkRow [.int .i64 c, .int .u64 t, .str n, a] 0)) (ky F 1) (mkRow [.int .i64 0, .int .u64 0, .str [], .nils, .int .i64 0, .nils, .nils, .nils] 0)) kc (mkRow [m, .slice bb o eo L.length cap, .int .i64 (y + 1), .int .i64 z] 0)) bb) (o + i * 8) 8 = some [.int .i64 q.cl, .int .u64 q.tok, .str q.nm, a0, .int .i64 q.how, r0, w0, i0] := by rw [L2 bb hbb (Ne.symm hne)]; exact rd0
    have hP2 : PasP (hset (hset (hset h (ky F 0) (mkRow [.int .i64 c, .int .u64 t, .str n, a] 0)) (ky F 1) (mkRow [.int .i64 0, .int .u64 0, .str [], .nils, .int .i64 0, .nils, .nils, .nils] 0)) kc (mkRow [m, .slice bb o eo L.length cap, .int .i64 (y + 1), .int .i64 z] 0)) [.int .i64 q.cl, .int .u64 q.tok, .str q.nm, a0, .int .i64 q.how, r0, w0, i0] q := by
      have e : X[i] = [.int .i64 q.cl, .int .u64 q.tok, .str q.nm, a0, .int .i64 q.how, r0, w0, i0] := by
        obtain ⟨b9, o9, eo9, cap9, e9, r9, _⟩ := hlX.at (show i < X.length by omega)
        injection e9 with e1 e2
        subst e1 e2
        exact Option.some.inj (r9.symm.trans rd0)
      rw [← e]
      exact PasI.p (hP0.move (L2.eqI (hQk A0 B0 hQ0) (Nat.le_trans hB0 hG)))
    have hsq := hsm q (List.mem_of_getElem? hq)
    refine sndQ_body (K := (KR SC)) kr_ok mixed noNum (m := 0) Tryz.func14 ?_
    generalize hQ : retQ _ _ _ _ _ _ = Q0
    refine body_go (c := Tryz.f14.body.getD .skip) (n := 47) rfl rfl (by simp only [↓reduceIte, T.setList, T.set_e, T.set_n, Nat.reduceDiv, Nat.reduceMod, Nat.reduceEqDiff, Nat.zero_add] <;> rfl) ?_
    simp only [Tryz.f14, Option.getD_some]
    repeat' (first | refine st ?_ | ((with_reducible (first | apply r_any | apply r_cond)); focus (simp only [↓reduceIte, clsOf, clsCall, newBlk, allocOp, Fr.ev, evs, ofV, ofA, ofS, nVar, AV.cells, rowOf_mk, put_mk, put_none, upd_mk, keyOf_mk, ky_inj, pureOp, readOp, pFA, pFA1, pFA2, rLd, rdAB_row, oneCell_one, someAgg_s, hget_same, hget_hset_ite, pBin, binA, intOp_lss, List.length_cons, List.length_nil, List.getElem?_cons_zero, List.getElem?_cons_succ, List.drop_zero, List.drop_succ_cons, List.take_succ_cons, List.take_zero, Nat.zero_add, Nat.add_zero, Nat.reduceAdd, Nat.reduceLT, Nat.reduceLeDiff, Nat.reduceEqDiff, Nat.reduceSub, and_self, Nat.add_eq, loadA_w, loadW_a, loadW_s, aSt_w, stOut_s, wrAB_row, ovr, List.set_cons_zero, List.set_cons_succ, allCell, ic_i, callTo_s, heavyCall, target, actOp, List.nil_append, List.append_nil, pNil, binA, eqIn, eqGuardOk, stepOp, stHeavy, stV_mk, stB_mk, stO_mk, T.get_n, T.set_n, T.set_e, Nat.reduceDiv, Nat.reduceMod, sz3, ag3, sz26, ag26, sz34, ag34, zr34, tg34, Tryz.underlying39, sz58, ag58, Tryz.underlying89, stepAny, wantedA_none, kk, kf, idxP, hg, ady, hlt, pIA_s Tryz.underlying58 sz34 hi, rd0, eq_false (Ne.symm hne), ky_old hbb] <;> rfl)))
    refine r_callC (S := SC) (f := 31) (by first | rfl | (simp only [wantedA_none, Tget_set])) (by simp only [callOuts, callTo_s, target, evs, Fr.ev, T.get_n, Nat.reduceEqDiff, Nat.reduceDiv, Nat.reduceMod, Nat.reduceSub, ↓reduceIte, List.nil_append, List.append_nil]; exact kc_miss rfl) ?_ ?_
    · exact ownQ hP2 hsq
    intro oo ho
    obtain ⟨x1, h3, rfl, hx3, low3, hs3, wx3⟩ := ho q hP2 hsq
    have hx3 : PasI (F + 1 + 1) (F + 1 + 1 + 1 + 1 + 1 + 1) h3 x1 q := hx3
    have l23 : Low (F + 1) (hset (hset (hset h (ky F 0) (mkRow [.int .i64 c, .int .u64 t, .str n, a] 0)) (ky F 1) (mkRow [.int .i64 0, .int .u64 0, .str [], .nils, .int .i64 0, .nils, .nils, .nils] 0)) kc (mkRow [m, .slice bb o eo L.length cap, .int .i64 (y + 1), .int .i64 z] 0)) h3 := low3
    have q3 : ∀ d, d ≤ 1267650600228229401496703205375 → hget h3 (ky F d) = hget (hset (hset (hset h (ky F 0) (mkRow [.int .i64 c, .int .u64 t, .str n, a] 0)) (ky F 1) (mkRow [.int .i64 0, .int .u64 0, .str [], .nils, .int .i64 0, .nils, .nils, .nils] 0)) kc (mkRow [m, .slice bb o eo L.length cap, .int .i64 (y + 1), .int .i64 z] 0)) (ky F d) := fun d hc => Low.own (F := F) (G := F + 1) l23 (by omega) hc
    obtain ⟨ok1, a1, r1, w1, i1, rfl, hA1, hR1, hW1, hI1⟩ := id hx3
    have b30 : hget h3 (ky F 0) = some (mkRow [.int .i64 c, .int .u64 t, .str n, a] 0) := by rw [q3 0 (by decide), hget_hset, if_neg (by rw [kkr]; exact id), hget_hset, if_neg (by rw [ky_inj]; decide), hget_hset, if_pos rfl]
    have b31 : hget h3 (ky F 1) = some (mkRow [.int .i64 0, .int .u64 0, .str [], .nils, .int .i64 0, .nils, .nils, .nils] 0) := by rw [q3 1 (by decide), hget_hset, if_neg (by rw [kkr]; exact id), hget_hset, if_pos rfl]
    have iA1 := isCell_L hA1.p
    have iR1 := isCell_L hR1.p
    have iW1 := isCell_L hW1.p
    have iI1 := isCell_L hI1.p
    have L3 : LowK kc F h h3 := L2.trans (((l23.down (Nat.le_succ F))).k)
    have L4 : LowK kc F h (hset (hset h3 (ky F 27) (mkRow [.int .i64 0, .int .u64 0, .str [], .nils, .int .i64 0, .nils, .nils, .nils] 0)) (ky F 27) (mkRow [.int .i64 q.cl, .int .u64 q.tok, .str q.nm, a1, .int .i64 q.how, r1, w1, i1] 0)) := (L3.own (Nat.le_refl F)).own (Nat.le_refl F)
    have hA4 := (hA.move (L4.eqI hAc hAB)).p
    refine ⟨_, by simp only [put_mk, Nat.reduceLT, ↓reduceIte] <;> rfl, ?_⟩
    repeat' (first | refine st ?_ | ((with_reducible (first | apply r_any | apply r_cond)); focus (simp only [↓reduceIte, clsOf, clsCall, newBlk, allocOp, Fr.ev, evs, nVar, AV.cells, rowOf_mk, put_mk, put_none, upd_mk, keyOf_mk, ky_inj, pureOp, readOp, pFA, pFA1, pFA2, rLd, rdAB_row, oneCell_one, hget_same, hget_hset_ite, List.length_cons, List.length_nil, List.getElem?_cons_zero, List.getElem?_cons_succ, List.drop_zero, List.drop_succ_cons, List.take_succ_cons, List.take_zero, Nat.zero_add, Nat.reduceAdd, Nat.reduceLT, Nat.reduceLeDiff, Nat.reduceEqDiff, Nat.reduceSub, and_self, Nat.add_eq, loadA_w, loadW_s, aSt_w, stOut_s, wrAB_row, ovr, List.set_cons_zero, List.set_cons_succ, allCell, ic_i, ic_s, callTo_s, heavyCall, target, actOp, List.nil_append, List.append_nil, stepOp, stHeavy, stV_mk, stB_mk, stO_mk, T.get_n, T.set_n, T.set_e, Nat.reduceDiv, Nat.reduceMod, sz24, ag24, Tryz.underlying26, sz34, zr34, tg34, stepAny, wantedA_none, b30, iA1, iR1, iW1, iI1] <;> rfl)))
    refine r_callC (S := SC) (f := 36) (by first | rfl | (simp only [wantedA_none, Tget_set])) (by simp only [callOuts, callTo_s, target, evs, Fr.ev, T.get_n, Nat.reduceEqDiff, Nat.reduceDiv, Nat.reduceMod, Nat.reduceSub, ↓reduceIte, List.nil_append, List.append_nil]; exact kc_miss rfl) ?_ ?_
    · exact cvQ hA4 hV
    intro oo ho
    obtain ⟨a2, h5, rfl, hA5, low5, hs5, iA2, wx5⟩ := ho V hA4 hV
    have hA5 : LstI (F + 1 + 1 + 1 + 1 + 1 + 1) (F + 1 + 1 + 1 + 1 + 1 + 1 + 1) h5 ksV a2 V := hA5
    have l45 : Low (F + 1 + 1 + 1 + 1 + 1 + 1) (hset (hset h3 (ky F 27) (mkRow [.int .i64 0, .int .u64 0, .str [], .nils, .int .i64 0, .nils, .nils, .nils] 0)) (ky F 27) (mkRow [.int .i64 q.cl, .int .u64 q.tok, .str q.nm, a1, .int .i64 q.how, r1, w1, i1] 0)) h5 := low5
    have q5 : ∀ d, d ≤ 1267650600228229401496703205375 → hget h5 (ky F d) = hget (hset (hset h3 (ky F 27) (mkRow [.int .i64 0, .int .u64 0, .str [], .nils, .int .i64 0, .nils, .nils, .nils] 0)) (ky F 27) (mkRow [.int .i64 q.cl, .int .u64 q.tok, .str q.nm, a1, .int .i64 q.how, r1, w1, i1] 0)) (ky F d) := fun d hc => Low.own (F := F) (G := F + 1 + 1 + 1 + 1 + 1 + 1) l45 (by omega) hc
    have b50 : hget h5 (ky F 0) = some (mkRow [.int .i64 c, .int .u64 t, .str n, a] 0) := by rw [q5 0 (by decide), hget_hset, if_neg (by rw [ky_inj]; decide), hget_hset, if_neg (by rw [ky_inj]; decide)]; exact b30
    have b51 : hget h5 (ky F 1) = some (mkRow [.int .i64 0, .int .u64 0, .str [], .nils, .int .i64 0, .nils, .nils, .nils] 0) := by rw [q5 1 (by decide), hget_hset, if_neg (by rw [ky_inj]; decide), hget_hset, if_neg (by rw [ky_inj]; decide)]; exact b31
    have b57 : hget h5 (ky F 27) = some (mkRow [.int .i64 q.cl, .int .u64 q.tok, .str q.nm, a1, .int .i64 q.how, r1, w1, i1] 0) := by rw [q5 27 (by decide), hget_hset, if_pos rfl]
    have xc2 := cells_cell iA2
    simp only [AV.cells] at xc2
    refine ⟨_, by simp only [put_mk, Nat.reduceLT, ↓reduceIte] <;> rfl, ?_⟩
    repeat' (first | refine st ?_ | ((with_reducible (first | apply r_any | apply r_cond)); focus (simp only [↓reduceIte, clsOf, Fr.ev, ofV, ofA, ofS, AV.cells, put_mk, put_none, ky_inj, pureOp, readOp, pFA, pFA1, pFA2, rLd, rdAB_row, someAgg_s, hget_same, hget_hset_ite, List.length_cons, List.length_nil, List.getElem?_cons_zero, List.getElem?_cons_succ, List.drop_zero, List.take_succ_cons, List.take_zero, Nat.zero_add, Nat.add_zero, Nat.reduceAdd, Nat.reduceLT, Nat.reduceLeDiff, Nat.reduceEqDiff, Nat.reduceSub, and_self, Nat.add_eq, loadA_w, loadW_a, aSt_w, stOut_s, wrAB_row, ovr, List.set_cons_zero, List.set_cons_succ, allCell, ic_i, ic_s, actOp, stepOp, stHeavy, stV_mk, stO_mk, T.get_n, T.set_n, T.set_e, Nat.reduceDiv, Nat.reduceMod, sz24, sz26, ag26, Tryz.underlying26, sz31, Tryz.underlying31, sz34, ag34, Tryz.underlying34, stepAny, wantedA_none, b50, b51, b57, iR1, iW1, iI1, iA2, xc2] <;> rfl)))
    subst hQ
    refine ret_back (by simp only [Tryz.results14, resultOf, resultsA, resultA, List.toList_toArray, Fr.ev, T.get_n, Nat.reduceDiv, Nat.reduceMod, Nat.reduceSub, Nat.reduceEqDiff, ↓reduceIte, loadA_w, hget_same] <;> rfl) ?_
    have L5 : LowK kc F h h5 := L4.trans ((l45.down (by omega)).k)
    have e34 : EqI (F + 1 + 1) (F + 1 + 1 + 1 + 1 + 1 + 1) h3 h5 := (((EqI.refl _ _ h3).set (.inl (by omega)) (by decide)).set (.inl (by omega)) (by decide)).call l45 (by omega)
    refine ⟨[.int .i64 c, .int .u64 t, .str n, a2, .int .i64 q.how, r1, w1, i1], _, _, out_eq (by rw [dec_t (p := (some i : Option Nat) ≠ none) (by simp)]), by omega, ?_, ?_, (((L5.own (Nat.le_refl F)).own (Nat.le_refl F)).own (Nat.le_refl F)), .pas ?_ ?_ ?_ ?_⟩
    · rw [hget_hset, if_neg (by rw [kk]; exact id), hget_hset, if_neg (by rw [kk]; exact id), hget_hset, if_neg (by rw [kk]; exact id), l45 kc (Nat.lt_of_lt_of_le hkc (ky_mono (by omega))), hget_hset, if_neg (by rw [kk]; exact id), hget_hset, if_neg (by rw [kk]; exact id), l23 kc (Nat.lt_of_lt_of_le hkc (ky_mono (by omega))), hget_hset, if_pos rfl, if_neg (by simp), if_neg (by simp), Int.add_zero]
    · rw [getP_some hf hq]
      refine ⟨cks_req (cks_new ok1 (cl_ok hA5.p) (cl_ok hR1.p) (cl_ok hW1.p) (cl_ok hI1.p)) hok.1 hok.2.1 hok.2.2 (cl_ok hA5.p), a2, r1, w1, i1, rfl, ?_, ?_, ?_, ?_⟩
      · exact (hA5.move ((((EqI.refl _ _ h5).set (.inl (by omega)) (by decide)).set (.inl (by omega)) (by decide)).set (.inl (by omega)) (by decide))).wide (by omega) (by omega)
      · exact (hR1.move (((e34.set (.inl (by omega)) (by decide)).set (.inl (by omega)) (by decide)).set (.inl (by omega)) (by decide))).wide (by omega) (by omega)
      · exact (hW1.move (((e34.set (.inl (by omega)) (by decide)).set (.inl (by omega)) (by decide)).set (.inl (by omega)) (by decide))).wide (by omega) (by omega)
      · exact (hI1.move (((e34.set (.inl (by omega)) (by decide)).set (.inl (by omega)) (by decide)).set (.inl (by omega)) (by decide))).wide (by omega) (by omega)
    · exact WrX.move wx5 hA5 ((((EqI.refl _ _ h5).set (.inl (by omega)) (by decide)).set (.inl (by omega)) (by decide)).set (.inl (by omega)) (by decide))
    · exact WrX.move (wx3.sub (by simp)) hR1 (((e34.set (.inl (by omega)) (by decide)).set (.inl (by omega)) (by decide)).set (.inl (by omega)) (by decide))
    · exact WrX.move (wx3.sub (by simp)) hW1 (((e34.set (.inl (by omega)) (by decide)).set (.inl (by omega)) (by decide)).set (.inl (by omega)) (by decide))
    · exact WrX.move (wx3.sub (by simp)) hI1 (((e34.set (.inl (by omega)) (by decide)).set (.inl (by omega)) (by decide)).set (.inl (by omega)) (by decide))

end Go.Proofs.YtmnhaoadhkdinaaGreatDoor

namespace Go.Proofs.YtmnhaoadhkdinaaGreatDoor
open Go Go.Ai
set_option maxRecDepth 100000

set_option maxHeartbeats 16000000 in
theorem getB (h : Heap) (F kc k A' B' : Nat) (c t : Int) (n : Tx) (a m l : AV) (y z : Int) (V : List (List AV)) (Q : Nat → Nat → Prop) (G : Nat) (X : List (List AV)) (L : List PV) (hkc : kc < ky F 0) (hk : k < ky F 0) (hne : kc ≠ k) (hg : hget h kc = some (mkRow [m, l, .int .i64 y, .int .i64 z] 0)) (g : LS false h k 8 l X) (kp : Kept Q G h X L) (hG : G ≤ F) (hQk : ∀ A B, Q A B → OutK kc A B) (hA : LstI A' B' h ksV a V) (hAc : OutK kc A' B') (hAB : B' ≤ F) (hok : ckOk (.i .i64) (.int .i64 c) ∧ ckOk (.i .u64) (.int .u64 t) ∧ ckOk .s (.str n)) (hV : V.length ≤ 100000) (hsm : ∀ q ∈ L, smallP 100000 q) (hL : L.length ≤ 1024) (hy : 0 ≤ y ∧ y ≤ 100000) (hz : 0 ≤ z ∧ z ≤ 100000) :
    SndQ Tryz.prog [] 16 [.ptr kc 0, .agg [.int .i64 c, .int .u64 t, .str n, a]] ⟨h, F⟩ (fun o => ∃ x' h' F', o = .val (.tup [.agg x', .bool (dec (fndP n V L ≠ none))]) ⟨h', F'⟩ ∧ F + 1 ≤ F' ∧ hget h' kc = some (mkRow [m, l, .int .i64 (y + if fndP n V L = none then 0 else 1), .int .i64 (z + if fndP n V L = none then 1 else 0)] 0) ∧ PasI (F + 1) F' h' x' (getP c t n V L) ∧ LowK kc F h h' ∧ WrX h' x') := by
  have mxl : maxLen = 9223372036854775807 := by decide
  refine sndQ_wf fun hw => ?_
  have iA := isCell_L hA.p
  have kk := fun (a : Nat) => ky_old (a := a) hkc
  have kkr := fun (a : Nat) => ky_oldr (a := a) hkc
  have L1 : Low F h (hset (hset h (ky F 0) (mkRow [.int .i64 c, .int .u64 t, .str n, a] 0)) (ky F 1) (mkRow [.int .i64 0, .int .u64 0, .str [], .nils, .int .i64 0, .nils, .nils, .nils] 0)) := ((Low.refl F h).set (Nat.le_refl F)).set (Nat.le_refl F)
  have S1 : SameH h (hset (hset h (ky F 0) (mkRow [.int .i64 c, .int .u64 t, .str n, a] 0)) (ky F 1) (mkRow [.int .i64 0, .int .u64 0, .str [], .nils, .int .i64 0, .nils, .nils, .nils] 0)) := L1.same hw
  have hXL : X.length = L.length := kp.1
  have hlX : LstP h ksP l X := g.lst kp.ok (by omega)
  have il := g.cell
  have hgB : hget (hset (hset h (ky F 0) (mkRow [.int .i64 c, .int .u64 t, .str n, a] 0)) (ky F 1) (mkRow [.int .i64 0, .int .u64 0, .str [], .nils, .int .i64 0, .nils, .nils, .nils] 0)) kc = some (mkRow [m, l, .int .i64 y, .int .i64 z] 0) := (L1 kc hkc).trans hg
  have kf := k_at (S := SC) (F := F + 1) (h := (hset (hset h (ky F 0) (mkRow [.int .i64 c, .int .u64 t, .str n, a] 0)) (ky F 1) (mkRow [.int .i64 0, .int .u64 0, .str [], .nils, .int .i64 0, .nils, .nils, .nils] 0))) (k := kc) (c := c) (t := t) (n := n) (a := a) (Nat.lt_of_lt_of_le hkc (ky_mono (Nat.le_succ F))) (x := m) (l := l) (y := .int .i64 y) (z := .int .i64 z) (by rw [hgB]; rfl) (hA.p.same S1) (hlX.same S1) (kp.low (L1.down hG))
  have ady := intOp_add (P := Tryz.prog) (t := 3) (show inR (y + 1) by unfold inR; omega)
  have adz := intOp_add (P := Tryz.prog) (t := 3) (show inR (z + 1) by unfold inR; omega)
  cases hf : fndP n V L with
  | none =>
    rw [hf] at kf
    refine sndQ_body (K := (KR SC)) kr_ok mixed noNum (m := 0) Tryz.func16 ?_
    generalize hQ : retQ _ _ _ _ _ _ = Q0
    refine body_go (c := Tryz.f16.body.getD .skip) (n := 43) rfl rfl (by simp only [↓reduceIte, T.setList, T.set_e, T.set_n, Nat.reduceDiv, Nat.reduceMod, Nat.reduceEqDiff, Nat.zero_add] <;> rfl) ?_
    simp only [Tryz.f16, Option.getD_some]
    repeat' (first | refine st ?_ | ((with_reducible (first | apply r_any | apply r_cond)); focus (simp only [↓reduceIte, clsOf, clsCall, newBlk, allocOp, Fr.ev, evs, evParts, ofV, ofA, ofS, nVar, AV.cells, rowOf_mk, put_mk, put_none, upd_mk, keyOf_mk, ky_inj, pureOp, readOp, pFA, pFA1, pFA2, rLd, rdAB_row, oneCell_one, someAgg_s, hget_same, hget_hset_ite, pBin, binA, intOp_lss, List.length_cons, List.length_nil, List.getElem?_cons_zero, List.getElem?_cons_succ, List.drop_zero, List.drop_succ_cons, List.take_succ_cons, List.take_zero, Nat.zero_add, Nat.add_zero, Nat.reduceAdd, Nat.reduceLT, Nat.reduceLeDiff, Nat.reduceEqDiff, Nat.reduceSub, and_self, Nat.add_eq, loadA_w, loadW_a, loadW_s, aSt_w, stOut_s, wrAB_row, ovr, List.set_cons_zero, List.set_cons_succ, allCell, ic_i, ic_s, ic_ns, callTo_s, heavyCall, target, actOp, List.nil_append, List.append_nil, pNil, pBuild, pBuild2, fieldsOk, buildParts, binA, decide_true, Int.reduceLT, Int.reduceNeg, stepOp, stHeavy, stV_mk, stB_mk, stO_mk, T.get_n, T.set_n, T.set_e, Nat.reduceDiv, Nat.reduceMod, sz3, ag3, sz26, ag26, sz31, sz32, sz34, zr34, tg34, Tryz.underlying34, Tryz.underlying60, stepAny, wantedA_none, kk, kkr, kf, idxP, hg, adz] <;> rfl)))
    subst hQ
    refine ret_back (by simp only [Tryz.results16, resultOf, resultsA, resultA, List.toList_toArray, Fr.ev, T.get_n, Nat.reduceDiv, Nat.reduceMod, Nat.reduceSub, Nat.reduceEqDiff, ↓reduceIte, loadA_w, hget_same] <;> rfl) ?_
    refine ⟨_, _, _, out_eq (by rw [dec_f (p := (none : Option Nat) ≠ none) fun h => h rfl]), Nat.le_refl _, by rw [hget_hset, if_neg (by rw [kk]; exact id), hget_hset, if_pos rfl, if_pos rfl, if_pos rfl, Int.add_zero], ?_, ((L1.k).set).own (Nat.le_refl F), .zero⟩
    rw [getP_none hf]
    exact zeroP_I
  | some i =>
    rw [hf] at kf
    have hi := fnd_lt hf
    obtain ⟨bb, o, eo, cap, a0, r0, w0, i0, q, el, hbb, hq, rd0, hA0, hR0, hW0, hI0⟩ := pas_at hw hlX kp hi
    have hbk : bb = k := g.key el
    subst hbk
    subst el
    have hlt : decide ((i : Int) < 0) = false := decide_eq_false (by omega)
    have hgt : True := trivial
    obtain ⟨A0, B0, hQ0, hB0, hP0⟩ := kp.2 i X[i] q (List.getElem?_eq_getElem (by omega)) hq
    have L2 : LowK kc F h (hset (hset (hset h (ky F 0) (mkRow [.int .i64 c, .int .u64 t, .str n, a] 0)) (ky F 1) (mkRow [.int .i64 0, .int .u64 0, .str [], .nils, .int .i64 0, .nils, .nils, .nils] 0)) kc (mkRow [m, .slice bb o eo L.length cap, .int .i64 (y + 1), .int .i64 z] 0)) := (L1.k).set
    have rd2 : rdAB (hget (hset (hset (hset h (ky F 0) (mkRow [.int .i64 c, .int .u64 t, .str n, a] 0)) (ky F 1) (mkRow [.int .i64 0, .int .u64 0, .str [], .nils, .int .i64 0, .nils, .nils, .nils] 0)) kc (mkRow [m, .slice bb o eo L.length cap, .int .i64 (y + 1), .int .i64 z] 0)) bb) (o + i * 8) 8 = some [.int .i64 q.cl, .int .u64 q.tok, .str q.nm, a0, .int .i64 q.how, r0, w0, i0] := by rw [L2 bb hbb (Ne.symm hne)]; exact rd0
    have hP2 : PasP (hset (hset (hset h (ky F 0) (mkRow [.int .i64 c, .int .u64 t, .str n, a] 0)) (ky F 1) (mkRow [.int .i64 0, .int .u64 0, .str [], .nils, .int .i64 0, .nils, .nils, .nils] 0)) kc (mkRow [m, .slice bb o eo L.length cap, .int .i64 (y + 1), .int .i64 z] 0)) [.int .i64 q.cl, .int .u64 q.tok, .str q.nm, a0, .int .i64 q.how, r0, w0, i0] q := by
      have e : X[i] = [.int .i64 q.cl, .int .u64 q.tok, .str q.nm, a0, .int .i64 q.how, r0, w0, i0] := by
        obtain ⟨b9, o9, eo9, cap9, e9, r9, _⟩ := hlX.at (show i < X.length by omega)
        injection e9 with e1 e2
        subst e1 e2
        exact Option.some.inj (r9.symm.trans rd0)
      rw [← e]
      exact PasI.p (hP0.move (L2.eqI (hQk A0 B0 hQ0) (Nat.le_trans hB0 hG)))
    have hsq := hsm q (List.mem_of_getElem? hq)
    refine sndQ_body (K := (KR SC)) kr_ok mixed noNum (m := 0) Tryz.func16 ?_
    generalize hQ : retQ _ _ _ _ _ _ = Q0
    refine body_go (c := Tryz.f16.body.getD .skip) (n := 43) rfl rfl (by simp only [↓reduceIte, T.setList, T.set_e, T.set_n, Nat.reduceDiv, Nat.reduceMod, Nat.reduceEqDiff, Nat.zero_add] <;> rfl) ?_
    simp only [Tryz.f16, Option.getD_some]
    repeat' (first | refine st ?_ | ((with_reducible (first | apply r_any | apply r_cond)); focus (simp only [↓reduceIte, clsOf, clsCall, newBlk, allocOp, Fr.ev, evs, ofV, ofA, ofS, nVar, AV.cells, rowOf_mk, put_mk, put_none, upd_mk, keyOf_mk, ky_inj, pureOp, readOp, pFA, pFA1, pFA2, rLd, rdAB_row, oneCell_one, someAgg_s, hget_same, hget_hset_ite, pBin, binA, intOp_lss, List.length_cons, List.length_nil, List.getElem?_cons_zero, List.getElem?_cons_succ, List.drop_zero, List.drop_succ_cons, List.take_succ_cons, List.take_zero, Nat.zero_add, Nat.add_zero, Nat.reduceAdd, Nat.reduceLT, Nat.reduceLeDiff, Nat.reduceEqDiff, Nat.reduceSub, and_self, Nat.add_eq, loadA_w, loadW_a, loadW_s, aSt_w, stOut_s, wrAB_row, ovr, List.set_cons_zero, List.set_cons_succ, allCell, ic_i, callTo_s, heavyCall, target, actOp, List.nil_append, List.append_nil, pNil, binA, stepOp, stHeavy, stV_mk, stB_mk, stO_mk, T.get_n, T.set_n, T.set_e, Nat.reduceDiv, Nat.reduceMod, sz3, ag3, sz26, ag26, sz34, ag34, zr34, tg34, sz58, ag58, Tryz.underlying60, stepAny, wantedA_none, kk, kf, idxP, hg, ady, hlt, pIA_s Tryz.underlying58 sz34 hi, rd0, eq_false (Ne.symm hne), ky_old hbb] <;> rfl)))
    refine r_callC (S := SC) (f := 9) (by first | rfl | (simp only [wantedA_none, Tget_set])) (by simp only [callOuts, callTo_s, target, evs, Fr.ev, T.get_n, Nat.reduceEqDiff, Nat.reduceDiv, Nat.reduceMod, Nat.reduceSub, ↓reduceIte, List.nil_append, List.append_nil]; exact kc_miss rfl) ?_ ?_
    · exact passQ hP2 hsq
    intro oo ho
    obtain ⟨x1, h3, rfl, hx3, low3, hs3, wx3⟩ := ho q hP2 hsq
    have hx3 : PasI (F + 1) (F + 1 + 1 + 1) h3 x1 q := hx3
    have l23 : Low (F + 1) (hset (hset (hset h (ky F 0) (mkRow [.int .i64 c, .int .u64 t, .str n, a] 0)) (ky F 1) (mkRow [.int .i64 0, .int .u64 0, .str [], .nils, .int .i64 0, .nils, .nils, .nils] 0)) kc (mkRow [m, .slice bb o eo L.length cap, .int .i64 (y + 1), .int .i64 z] 0)) h3 := low3
    have q3 : ∀ d, d ≤ 1267650600228229401496703205375 → hget h3 (ky F d) = hget (hset (hset (hset h (ky F 0) (mkRow [.int .i64 c, .int .u64 t, .str n, a] 0)) (ky F 1) (mkRow [.int .i64 0, .int .u64 0, .str [], .nils, .int .i64 0, .nils, .nils, .nils] 0)) kc (mkRow [m, .slice bb o eo L.length cap, .int .i64 (y + 1), .int .i64 z] 0)) (ky F d) := fun d hc => Low.own (F := F) (G := F + 1) l23 (by omega) hc
    obtain ⟨ok1, a1, r1, w1, i1, rfl, hA1, hR1, hW1, hI1⟩ := id hx3
    have b30 : hget h3 (ky F 0) = some (mkRow [.int .i64 c, .int .u64 t, .str n, a] 0) := by rw [q3 0 (by decide), hget_hset, if_neg (by rw [kkr]; exact id), hget_hset, if_neg (by rw [ky_inj]; decide), hget_hset, if_pos rfl]
    have b31 : hget h3 (ky F 1) = some (mkRow [.int .i64 0, .int .u64 0, .str [], .nils, .int .i64 0, .nils, .nils, .nils] 0) := by rw [q3 1 (by decide), hget_hset, if_neg (by rw [kkr]; exact id), hget_hset, if_pos rfl]
    have iA1 := isCell_L hA1.p
    have iR1 := isCell_L hR1.p
    have iW1 := isCell_L hW1.p
    have iI1 := isCell_L hI1.p
    have L3 : LowK kc F h h3 := L2.trans (((l23.down (Nat.le_succ F))).k)
    have L4 : LowK kc F h (hset (hset h3 (ky F 25) (mkRow [.int .i64 0, .int .u64 0, .str [], .nils, .int .i64 0, .nils, .nils, .nils] 0)) (ky F 25) (mkRow [.int .i64 q.cl, .int .u64 q.tok, .str q.nm, a1, .int .i64 q.how, r1, w1, i1] 0)) := (L3.own (Nat.le_refl F)).own (Nat.le_refl F)
    have hA4 := (hA.move (L4.eqI hAc hAB)).p
    refine ⟨_, by simp only [put_mk, Nat.reduceLT, ↓reduceIte] <;> rfl, ?_⟩
    repeat' (first | refine st ?_ | ((with_reducible (first | apply r_any | apply r_cond)); focus (simp only [↓reduceIte, clsOf, clsCall, newBlk, allocOp, Fr.ev, evs, evParts, nVar, AV.cells, rowOf_mk, put_mk, put_none, upd_mk, keyOf_mk, ky_inj, pureOp, readOp, rLd, rdAB_row, someAgg_s, hget_same, hget_hset_ite, List.length_cons, List.length_nil, List.getElem?_cons_zero, List.drop_zero, List.take_succ_cons, List.take_zero, Nat.zero_add, Nat.reduceAdd, Nat.reduceLT, Nat.reduceLeDiff, Nat.reduceEqDiff, Nat.reduceSub, and_self, loadA_w, loadW_a, aSt_w, stOut_s, wrAB_row, ovr, List.set_cons_zero, List.set_cons_succ, allCell, ic_i, ic_s, callTo_s, heavyCall, target, actOp, List.nil_append, List.append_nil, pBuild, pBuild2, fieldsOk, buildParts, stepOp, stHeavy, stV_mk, stB_mk, stO_mk, T.get_n, T.set_n, T.set_e, Nat.reduceDiv, Nat.reduceMod, sz3, sz26, ag26, sz29, zr31, Tryz.underlying31, sz34, zr34, tg34, stepAny, wantedA_none, b30, iA1, iR1, iW1, iI1] <;> rfl)))
    have hN4 : LstP (hset (hset h3 (ky F 25) (mkRow [.int .i64 0, .int .u64 0, .str [], .nils, .int .i64 0, .nils, .nils, .nils] 0)) (ky F 25) (mkRow [.int .i64 q.cl, .int .u64 q.tok, .str q.nm, a1, .int .i64 q.how, r1, w1, i1] 0)) ksT .nils (tL []) := ⟨by simp [tL], by simp [tL], .inl ⟨.inl rfl, rfl⟩⟩
    refine r_callC (S := SC) (f := 28) (by first | rfl | (simp only [wantedA_none, Tget_set])) (by simp only [callOuts, callTo_s, target, evs, Fr.ev, T.get_n, Nat.reduceEqDiff, Nat.reduceDiv, Nat.reduceMod, Nat.reduceSub, ↓reduceIte, List.nil_append, List.append_nil]; exact kc_miss rfl) ?_ ?_
    · exact planQ hA4 hN4 hN4 hV (by simp) (by simp)
    intro oo ho
    obtain ⟨a2, r9, w9, h5, rfl, hA5, _, _, low5, hs5, wx5, _⟩ := ho V [] [] hA4 hN4 hN4 hV (by simp) (by simp)
    have hA5 : LstI (F + 1 + 1 + 1) (F + 1 + 1 + 1 + 1) h5 ksV a2 V := hA5
    have l45 : Low (F + 1 + 1 + 1) (hset (hset h3 (ky F 25) (mkRow [.int .i64 0, .int .u64 0, .str [], .nils, .int .i64 0, .nils, .nils, .nils] 0)) (ky F 25) (mkRow [.int .i64 q.cl, .int .u64 q.tok, .str q.nm, a1, .int .i64 q.how, r1, w1, i1] 0)) h5 := low5
    have iA2 := isCell_L hA5.p
    have q5 : ∀ d, d ≤ 1267650600228229401496703205375 → hget h5 (ky F d) = hget (hset (hset h3 (ky F 25) (mkRow [.int .i64 0, .int .u64 0, .str [], .nils, .int .i64 0, .nils, .nils, .nils] 0)) (ky F 25) (mkRow [.int .i64 q.cl, .int .u64 q.tok, .str q.nm, a1, .int .i64 q.how, r1, w1, i1] 0)) (ky F d) := fun d hc => Low.own (F := F) (G := F + 1 + 1 + 1) l45 (by omega) hc
    have b50 : hget h5 (ky F 0) = some (mkRow [.int .i64 c, .int .u64 t, .str n, a] 0) := by rw [q5 0 (by decide), hget_hset, if_neg (by rw [ky_inj]; decide), hget_hset, if_neg (by rw [ky_inj]; decide)]; exact b30
    have b51 : hget h5 (ky F 1) = some (mkRow [.int .i64 0, .int .u64 0, .str [], .nils, .int .i64 0, .nils, .nils, .nils] 0) := by rw [q5 1 (by decide), hget_hset, if_neg (by rw [ky_inj]; decide), hget_hset, if_neg (by rw [ky_inj]; decide)]; exact b31
    have b57 : hget h5 (ky F 25) = some (mkRow [.int .i64 q.cl, .int .u64 q.tok, .str q.nm, a1, .int .i64 q.how, r1, w1, i1] 0) := by rw [q5 25 (by decide), hget_hset, if_pos rfl]
    have xc2 := cells_cell iA2
    simp only [AV.cells] at xc2
    refine ⟨_, by simp only [put_mk, Nat.reduceLT, ↓reduceIte] <;> rfl, ?_⟩
    repeat' (first | refine st ?_ | ((with_reducible (first | apply r_any | apply r_cond)); focus (simp only [↓reduceIte, clsOf, Fr.ev, ofV, ofA, ofS, AV.cells, put_mk, put_none, ky_inj, pureOp, readOp, pFA, pFA1, pFA2, rLd, rdAB_row, someAgg_s, hget_same, hget_hset_ite, List.length_cons, List.length_nil, List.getElem?_cons_zero, List.drop_zero, List.take_succ_cons, List.take_zero, Nat.zero_add, Nat.add_zero, Nat.reduceAdd, Nat.reduceLT, Nat.reduceLeDiff, Nat.reduceEqDiff, Nat.reduceSub, and_self, Nat.add_eq, loadA_w, loadW_a, aSt_w, stOut_s, wrAB_row, ovr, List.set_cons_zero, List.set_cons_succ, allCell, ic_i, ic_s, actOp, pF, pF1, partA, stepOp, stHeavy, stV_mk, stO_mk, T.get_n, T.set_n, T.set_e, Nat.reduceDiv, Nat.reduceMod, sz26, ag26, sz31, Tryz.underlying31, sz34, ag34, Tryz.underlying34, stepAny, wantedA_none, b51, b57, iR1, iW1, iI1, iA2] <;> rfl)))
    subst hQ
    refine ret_back (by simp only [Tryz.results16, resultOf, resultsA, resultA, List.toList_toArray, Fr.ev, T.get_n, Nat.reduceDiv, Nat.reduceMod, Nat.reduceSub, Nat.reduceEqDiff, ↓reduceIte, loadA_w, hget_same] <;> rfl) ?_
    have L5 : LowK kc F h h5 := L4.trans ((l45.down (by omega)).k)
    have e34 : EqI (F + 1) (F + 1 + 1 + 1) h3 h5 := (((EqI.refl _ _ h3).set (.inl (by omega)) (by decide)).set (.inl (by omega)) (by decide)).call l45 (by omega)
    refine ⟨[.int .i64 c, .int .u64 t, .str n, a2, .int .i64 q.how, r1, w1, i1], _, _, out_eq (by rw [dec_t (p := (some i : Option Nat) ≠ none) (by simp)]), by omega, ?_, ?_, ((L5.own (Nat.le_refl F)).own (Nat.le_refl F)), .pas ?_ ?_ ?_ ?_⟩
    · rw [hget_hset, if_neg (by rw [kk]; exact id), hget_hset, if_neg (by rw [kk]; exact id), l45 kc (Nat.lt_of_lt_of_le hkc (ky_mono (by omega))), hget_hset, if_neg (by rw [kk]; exact id), hget_hset, if_neg (by rw [kk]; exact id), l23 kc (Nat.lt_of_lt_of_le hkc (ky_mono (by omega))), hget_hset, if_pos rfl, if_neg (by simp), if_neg (by simp), Int.add_zero]
    · rw [getP_some hf hq]
      refine ⟨cks_req (cks_new ok1 (cl_ok hA5.p) (cl_ok hR1.p) (cl_ok hW1.p) (cl_ok hI1.p)) hok.1 hok.2.1 hok.2.2 (cl_ok hA5.p), a2, r1, w1, i1, rfl, ?_, ?_, ?_, ?_⟩
      · exact (hA5.move (((EqI.refl _ _ h5).set (.inl (by omega)) (by decide)).set (.inl (by omega)) (by decide))).wide (by omega) (by omega)
      · exact (hR1.move ((e34.set (.inl (by omega)) (by decide)).set (.inl (by omega)) (by decide))).wide (by omega) (by omega)
      · exact (hW1.move ((e34.set (.inl (by omega)) (by decide)).set (.inl (by omega)) (by decide))).wide (by omega) (by omega)
      · exact (hI1.move ((e34.set (.inl (by omega)) (by decide)).set (.inl (by omega)) (by decide))).wide (by omega) (by omega)
    · exact WrX.move wx5 hA5 (((EqI.refl _ _ h5).set (.inl (by omega)) (by decide)).set (.inl (by omega)) (by decide))
    · exact WrX.move (wx3.sub (by simp)) hR1 ((e34.set (.inl (by omega)) (by decide)).set (.inl (by omega)) (by decide))
    · exact WrX.move (wx3.sub (by simp)) hW1 ((e34.set (.inl (by omega)) (by decide)).set (.inl (by omega)) (by decide))
    · exact WrX.move (wx3.sub (by simp)) hI1 ((e34.set (.inl (by omega)) (by decide)).set (.inl (by omega)) (by decide))

end Go.Proofs.YtmnhaoadhkdinaaGreatDoor

namespace Go.Proofs.YtmnhaoadhkdinaaGreatDoor
open Go Go.Ai
set_option maxRecDepth 100000

section
variable {S : FuncId → List AV → St → Out → Prop}
set_option maxHeartbeats 8000000 in
theorem touB (h : Heap) (F : Nat) (c t how : Int) (n : Tx) (a r wr ii w : AV) (I U : List (List AV)) (ia : isCell a = true) (ir : isCell r = true) (iw : isCell wr = true) (hI : LstP h ksIt ii I) (hU : LstP h ksW w U) (hlI : I.length ≤ 100000) (hlU : U.length ≤ 100000) : Snd Tryz.prog [] 39 [.agg [.int .i64 c, .int .u64 t, .str n, a, .int .i64 how, r, wr, ii], w] ⟨h, F⟩ [.val (.bool (dec (∃ c ∈ I, keyI c ∈ U.map keyI))) ⟨h, F⟩] := by
  refine snd_val (by simp [Kin]) fun hw => ?_
  have mxl : maxLen = 9223372036854775807 := by decide
  have lI := fun (h2 : Heap) => rLen1_L (h2 := h2) Tryz.underlying32 hI
  have lU := fun (h2 : Heap) => rLen1_L (h2 := h2) Tryz.underlying35 hU
  have iI := isCell_L hI
  have sI := av_self_L hI
  have sU := av_self_L hU
  refine sndQ_body (K := (KR C0)) kr_ok mixed noNum (m := U.length + I.length + 1) Tryz.func39 ?_
  generalize hQ : retQ _ _ _ _ _ _ = Q0
  refine body_go (c := Tryz.f39.body.getD .skip) (n := 32) rfl rfl (by simp only [↓reduceIte, T.setList, T.set_e, T.set_n, Nat.reduceDiv, Nat.reduceMod, Nat.reduceEqDiff, Nat.zero_add] <;> rfl) ?_
  simp only [Tryz.f39, Option.getD_some]
  repeat' (first | refine st ?_ | ((with_reducible apply r_drawL); (focus kernel_rfl); (focus kernel_rfl); (focus (exact sd1))) | ((with_reducible (first | apply r_any | apply r_cond)); focus (simp only [↓reduceIte, clsOf, newBlk, allocOp, Fr.ev, ofV, ofA, ofS, nVar, AV.cells, rowOf_mk, put_mk, upd_mk, keyOf_mk, pureOp, Nat.add_zero, Nat.reduceLT, Nat.reduceEqDiff, Nat.reduceSub, stepOp, stV_mk, stB_mk, T.get_n, T.set_n, T.set_e, Nat.reduceDiv, Nat.reduceMod, stepAny, wantedA_none] <;> rfl)))
  refine r_loop (I := fun nn fr s1 => ∃ lc tt i, fr = ⟨F, lc, 32, tt, [], .no⟩ ∧ s1 = ⟨(hset h (ky F 0) (mkRow [.int .i64 c, .int .u64 t, .str n, a, .int .i64 how, r, wr, ii] 0)), F + 1⟩ ∧ i ≤ U.length ∧ nn = U.length - i ∧ lc + nn * 1000000000 ≤ 100000000000000000000000000 ∧ (∀ (x : Nat) (d e : List AV), x < i → U[x]? = some d → e ∈ I → ¬ keyI e = keyI d) ∧ tt.get 1 = some w ∧ tt.get 2 = some (.ptr (ky F 0) 0) ∧ tt.get 5 = some (.int .i64 (i : Int))) (n := U.length) ?_ ?_ ?_
  · omega
  · exact ⟨_, _, 0, rfl, rfl, Nat.zero_le _, (Nat.sub_zero _).symm, by omega, fun x d e hx => absurd hx (Nat.not_lt_zero _), sd8, sd8, sd8⟩
  rintro nn fr s1 ⟨lc, tt, i, rfl, rfl, hi, rfl, hlc, hN, u1, u2, u5⟩
  by_cases hiu : i < U.length
  rotate_left
  · repeat' (first | refine st ?_ | ((with_reducible apply r_drawL); (focus kernel_rfl); (focus kernel_rfl); (focus (exact sd1))) | ((with_reducible (first | apply r_any | apply r_cond)); focus (simp only [↓reduceIte, clsOf, clsCall, Fr.ev, ofV, ofA, ofS, put_mk, pureOp, readOp, pBin, binA, intOp_lss, List.getElem?_cons_zero, Nat.reduceLT, Nat.reduceEqDiff, binA, stepOp, stV_mk, stepAny, wantedA_none, rCall, rLen, Tget_set, lU, lt_f hiu] <;> rfl)))
    subst hQ
    refine ret_back (by simp only [Tryz.results39, resultOf, resultsA, resultA, List.toList_toArray, Fr.ev, Tget_set, ↓reduceIte] <;> rfl) ?_
    exact ⟨_, out_eq (by rw [dec_f (p := ∃ c ∈ I, keyI c ∈ U.map keyI) fun ⟨e, he, hk⟩ => by
      obtain ⟨d, hd, hde⟩ := List.mem_map.1 hk
      obtain ⟨x, hx⟩ := List.getElem?_of_mem hd
      exact hN x d e (by have := (List.getElem?_eq_some_iff.1 hx).1; omega) hx he hde.symm]), by repeat (first | exact Same.base _ _ _ | refine Same.hset hw ?_ (ky_le _ _))⟩
  obtain ⟨bw, ow, eow, capw, kw, gw, v0, v1, tw, elw, hbw, hpw, q5⟩ := wr_at hw hU hiu
  have qw : rdAB (hget h bw) (ow + i * 5) 1 = some [.str kw] := rdAB_part q5 (k := 0) (j := 1) (by decide)
  have adi := intOp_add (P := Tryz.prog) (t := 3) (inR_succ hiu (by omega : U.length ≤ maxLen))
  repeat' (first | refine st ?_ | ((with_reducible apply r_drawL); (focus kernel_rfl); (focus kernel_rfl); (focus (exact sd1))) | ((with_reducible (first | apply r_any | apply r_cond)); focus (simp only [↓reduceIte, clsOf, clsCall, Fr.ev, ofV, ofA, ofS, put_mk, pureOp, readOp, pBin, binA, intOp_lss, List.getElem?_cons_zero, Nat.reduceLT, Nat.reduceEqDiff, binA, stepOp, stV_mk, stepAny, wantedA_none, rCall, rLen, Tget_set, lU, lt_t hiu] <;> rfl)))
  refine r_loop (I := fun nn fr s1 => ∃ lc2 tt2 k, fr = ⟨F, lc2, 32, tt2, [], .no⟩ ∧ s1 = ⟨(hset h (ky F 0) (mkRow [.int .i64 c, .int .u64 t, .str n, a, .int .i64 how, r, wr, ii] 0)), F + 1⟩ ∧ k ≤ I.length ∧ nn = I.length - k ∧ lc2 + nn * 1000 ≤ lc + 999000000 ∧ (∀ (x : Nat) (e : List AV), x < k → I[x]? = some e → ¬ keyI e = kw) ∧ tt2.get 1 = some w ∧ tt2.get 2 = some (.ptr (ky F 0) 0) ∧ tt2.get 5 = some (.int .i64 (i : Int)) ∧ tt2.get 6 = some (.int .i64 (k : Int))) (n := I.length) ?_ ?_ ?_
  · omega
  · exact ⟨_, _, 0, rfl, rfl, Nat.zero_le _, (Nat.sub_zero _).symm, by omega, fun x e hx => absurd hx (Nat.not_lt_zero _), sd8, sd8, sd8, sd8⟩
  rintro nn fr s1 ⟨lc2, tt2, k, rfl, rfl, hk, rfl, hlc2, hM, u1, u2, u5, u6⟩
  by_cases hkl : k < I.length
  rotate_left
  · repeat' (first | refine st ?_ | ((with_reducible apply r_drawL); (focus kernel_rfl); (focus kernel_rfl); (focus (exact sd1))) | ((with_reducible (first | apply r_any | apply r_cond)); focus (simp only [↓reduceIte, clsOf, clsCall, Fr.ev, ofV, ofA, ofS, put_mk, pureOp, readOp, pFA, pFA1, pFA2, rLd, rdAB_row, oneCell_one, hget_same, pBin, binA, intOp_lss, List.length_cons, List.length_nil, List.getElem?_cons_zero, List.getElem?_cons_succ, List.drop_zero, List.drop_succ_cons, List.take_succ_cons, List.take_zero, Nat.zero_add, Nat.reduceAdd, Nat.reduceLT, Nat.reduceLeDiff, Nat.reduceEqDiff, Nat.add_eq, loadA_w, loadW_s, binA, stepOp, stV_mk, sz32, ag32, Tryz.underlying34, stepAny, wantedA_none, rCall, rLen, Tget_set, u2, lI, lt_f hkl, adi] <;> rfl)))
    exact r_rq_n (k := U.length - (i + 1)) (by omega) ⟨_, _, i + 1, rfl, rfl, by omega, rfl, by omega, fun x d e hx hd he => by
      by_cases hxi : x < i
      · exact hN x d e hxi hd he
      · rw [show x = i by omega, hpw] at hd
        cases hd
        obtain ⟨y, hy⟩ := List.getElem?_of_mem he
        exact hM y e (by have := (List.getElem?_eq_some_iff.1 hy).1; omega) hy, sd8, sd8, sd8⟩
  obtain ⟨bi, oi, eoi, capi, ki, x0, x1, tx, eli, hbi, hpi, q4⟩ := it_at hw hI hkl
  have qi : rdAB (hget h bi) (oi + k * 4) 1 = some [.str ki] := rdAB_part q4 (k := 0) (j := 1) (by decide)
  have adk := intOp_add (P := Tryz.prog) (t := 3) (inR_succ hkl (by omega : I.length ≤ maxLen))
  rw [elw] at u1
  subst eli
  by_cases he : kw = ki
  · have e1 : strOp .eql kw ki = some (.bool true) := by rw [he]; exact str_eq_t ki
    repeat' (first | refine st ?_ | ((with_reducible apply (r_drawW (id := 7) (js := [0, 1, 2, 3, 4, 5, 6, 7, 8, 9, 10, 11]))); (focus kernel_rfl); (focus kernel_rfl); (focus (exact sd1))) | ((with_reducible apply d_end); (focus (simp only [List.length_cons, List.length_nil, Nat.add_assoc, Nat.reduceAdd, Nat.zero_add] <;> rfl))) | ((with_reducible apply d_any); (focus rfl); (iterate 2 (focus (simp only [↓reduceIte, clsOf, Fr.ev, put_mk, pureOp, readOp, pFA, pFA1, pFA2, rLd, rdAB_row, oneCell_one, hget_same, hget_hset_ite, pBin, binA, List.length_cons, List.length_nil, List.getElem?_cons_zero, List.getElem?_cons_succ, List.drop_zero, List.drop_succ_cons, List.take_succ_cons, List.take_zero, Nat.zero_add, Nat.add_zero, Nat.reduceAdd, Nat.reduceLT, Nat.reduceLeDiff, Nat.reduceEqDiff, Nat.add_eq, loadA_w, loadW_s, binA, stepOp, stV_mk, sz9, ag9, sz32, ag32, Tryz.underlying34, Tryz.underlying66, Tryz.underlying68, stepAny, wantedA_none, readSelf, av_str, av_sl, Tget_set, u1, u2, u5, u6, qw, qi, ky_old hbw, ky_old hbi, pIA_s Tryz.underlying35 sz68 hiu, pIA_s Tryz.underlying32 sz66 hkl, e1] <;> rfl))); (focus (first | exact SameH.refl _ | (simp only [sameT, sameS hw]; done)))) | ((with_reducible apply r_drawL); (focus kernel_rfl); (focus kernel_rfl); (focus (exact sd1))) | ((with_reducible (first | apply r_any | apply r_cond)); focus (simp only [↓reduceIte, clsOf, clsCall, Fr.ev, ofV, ofA, ofS, put_mk, pureOp, readOp, pFA, pFA1, pFA2, rLd, rdAB_row, oneCell_one, hget_same, pBin, binA, intOp_lss, List.length_cons, List.length_nil, List.getElem?_cons_zero, List.getElem?_cons_succ, List.drop_zero, List.drop_succ_cons, List.take_succ_cons, List.take_zero, Nat.zero_add, Nat.reduceAdd, Nat.reduceLT, Nat.reduceLeDiff, Nat.reduceEqDiff, Nat.add_eq, loadA_w, loadW_s, binA, stepOp, stV_mk, sz32, ag32, Tryz.underlying34, stepAny, wantedA_none, rCall, rLen, Tget_set, u2, lI, lt_t hkl] <;> rfl)))
    subst hQ
    refine ret_back (by simp only [Tryz.results39, resultOf, resultsA, resultA, List.toList_toArray, Fr.ev, Tget_set, ↓reduceIte] <;> rfl) ?_
    exact ⟨_, out_eq (by rw [dec_t (p := ∃ c ∈ I, keyI c ∈ U.map keyI) ⟨_, List.mem_of_getElem? hpi, List.mem_map.2 ⟨_, List.mem_of_getElem? hpw, he⟩⟩]), by repeat (first | exact Same.base _ _ _ | refine Same.hset hw ?_ (ky_le _ _))⟩
  · have e1 := str_eq_f he
    repeat' (first | refine st ?_ | ((with_reducible apply (r_drawW (id := 7) (js := [0, 1, 2, 3, 4, 5, 6, 7, 8, 9, 10, 11]))); (focus kernel_rfl); (focus kernel_rfl); (focus (exact sd1))) | ((with_reducible apply d_end); (focus (simp only [List.length_cons, List.length_nil, Nat.add_assoc, Nat.reduceAdd, Nat.zero_add] <;> rfl))) | ((with_reducible apply d_any); (focus rfl); (iterate 2 (focus (simp only [↓reduceIte, clsOf, Fr.ev, put_mk, pureOp, readOp, pFA, pFA1, pFA2, rLd, rdAB_row, oneCell_one, hget_same, hget_hset_ite, pBin, binA, List.length_cons, List.length_nil, List.getElem?_cons_zero, List.getElem?_cons_succ, List.drop_zero, List.drop_succ_cons, List.take_succ_cons, List.take_zero, Nat.zero_add, Nat.add_zero, Nat.reduceAdd, Nat.reduceLT, Nat.reduceLeDiff, Nat.reduceEqDiff, Nat.add_eq, loadA_w, loadW_s, binA, stepOp, stV_mk, sz9, ag9, sz32, ag32, Tryz.underlying34, Tryz.underlying66, Tryz.underlying68, stepAny, wantedA_none, readSelf, av_str, av_sl, Tget_set, u1, u2, u5, u6, qw, qi, ky_old hbw, ky_old hbi, pIA_s Tryz.underlying35 sz68 hiu, pIA_s Tryz.underlying32 sz66 hkl, e1] <;> rfl))); (focus (first | exact SameH.refl _ | (simp only [sameT, sameS hw]; done)))) | ((with_reducible apply r_drawL); (focus kernel_rfl); (focus kernel_rfl); (focus (exact sd1))) | ((with_reducible (first | apply r_any | apply r_cond)); focus (simp only [↓reduceIte, clsOf, clsCall, Fr.ev, ofV, ofA, ofS, put_mk, pureOp, readOp, pFA, pFA1, pFA2, rLd, rdAB_row, oneCell_one, hget_same, pBin, binA, intOp_lss, List.length_cons, List.length_nil, List.getElem?_cons_zero, List.getElem?_cons_succ, List.drop_zero, List.drop_succ_cons, List.take_succ_cons, List.take_zero, Nat.zero_add, Nat.reduceAdd, Nat.reduceLT, Nat.reduceLeDiff, Nat.reduceEqDiff, Nat.add_eq, loadA_w, loadW_s, binA, stepOp, stV_mk, sz32, ag32, Tryz.underlying34, stepAny, wantedA_none, rCall, rLen, Tget_set, u2, lI, lt_t hkl, adk] <;> rfl)))
    exact r_rq_n (k := I.length - (k + 1)) (by omega) ⟨_, _, k + 1, rfl, rfl, by omega, rfl, by omega, fun x e hx he' => by
      by_cases hxk : x < k
      · exact hM x e hxk he'
      · rw [show x = k by omega, hpi] at he'
        cases he'
        exact fun h => he h.symm, (by first | (simp only [Tget_set, Nat.reduceEqDiff, ↓reduceIte, u1, elw] <;> rfl) | rfl), sd8, sd8, sd8⟩
theorem k_touB {h h1 : Heap} {F : Nat} {c t how : Int} {n : Tx} {a r wr ii w : AV} {I U : List (List AV)} (ia : isCell a = true) (ir : isCell r = true) (iw : isCell wr = true) (hI : LstP h ksIt ii I) (hU : LstP h ksW w U) (hlI : I.length ≤ 100000) (hlU : U.length ≤ 100000) (hs : SameH h h1) : CallF.fn (KR S) 39 [.agg [.int .i64 c, .int .u64 t, .str n, a, .int .i64 how, r, wr, ii], w] ⟨h1, F⟩ = some [.val (.bool (dec (∃ c ∈ I, keyI c ∈ U.map keyI))) ⟨h1, F⟩] :=
  kr_fn ((rfl : _ = cTo [.agg [.int .i64 c, .int .u64 t, .str n, a, .int .i64 how, r, wr, ii], w] ⟨h1, F⟩).trans (by simp only [cTo, lstOf_same hI hs, lstOf_same hU hs])) (touB h1 F c t how n a r wr ii w I U ia ir iw (hI.same hs) (hU.same hs) hlI hlU)
end

end Go.Proofs.YtmnhaoadhkdinaaGreatDoor

namespace Go.Proofs.YtmnhaoadhkdinaaGreatDoor
open Go Go.Ai
set_option maxRecDepth 100000

theorem delfQ {h : Heap} {F b k : Nat} {l x : AV} {U : List (List AV)} {Q : Nat → Nat → Prop} {G A' B' : Nat} {X : List (List AV)} {L : List PV} (hb0 : b < ky F 0) (hbk : b ≠ k) (hkF : k < ky F 0) (hb : rdAB (hget h b) 0 1 = some [x]) (hU : LstI A' B' h ksW x U) (hUk : OutK k A' B') (hUB : B' ≤ F) (g : LS true h k 8 l X) (kp : Kept Q G h X L) (hG : G ≤ F) (hQk : ∀ A B, Q A B → OutK k A B) (hn : L.length ≤ 90000) :
    SndQ Tryz.prog [] 37 [l, .fn (.func 38) [] [.ptr b 0]] ⟨h, F⟩ (SC 37 [l, .fn (.func 38) [] [.ptr b 0]] ⟨h, F⟩) := by
  have hsame : ∀ {x' : AV} {U' : List (List AV)}, rdAB (hget h b) 0 1 = some [x'] → LstP h ksW x' U' → U' = U := fun h1 h2 => by
    rw [hb] at h1
    cases h1
    exact LstP.uniq h2 hU.p
  rcases id g with ⟨rfl, rfl⟩ | gO | ⟨e, _⟩
  · refine (delfN h F b x U hb0 hb hU.p).mono fun o ho => fun k' x' U' X' L' Q' G' _ _ g' kp' _ => ?_
    obtain rfl := LS.uniq g g'
    have hL' : L' = [] := List.length_eq_zero_iff.1 kp'.1.symm
    subst hL'
    exact ⟨_, _, ho, .inl ⟨rfl, rfl⟩, LowK.refl _ _ _⟩
  · refine (delfA h F b k l x U Q G A' B' X L hb0 hbk hkF hb hU hUk hUB g kp hG hQk hn).mono fun o ho => fun k' x' U' X' L' Q' G' h1 h2 g' kp' _ => ?_
    obtain rfl := hsame h1 h2
    obtain rfl := LS.uniq g g'
    have hlX : LstP h ksP l X := g.lst kp.ok (by rw [kp.1]; exact Nat.le_trans hn (by decide))
    have hLL : L = L' := Option.some.inj ((pasO_eq hlX kp).symm.trans (pasO_eq hlX kp'))
    subst hLL
    have hkk : k = k' := by
      rcases g' with ⟨e, _⟩ | g'' | ⟨e, _⟩
      · obtain ⟨_, _, _, _, e2⟩ := gO
        rw [e] at e2; cases e2
      · exact (LO.uniq (by decide) gO g'').1
      · cases e
    subst hkk
    exact ho
  · cases e
set_option maxHeartbeats 8000000 in
theorem touchA (h : Heap) (F kc k A' B' : Nat) (w : AV) (U : List (List AV)) (m l y n : AV) (Q : Nat → Nat → Prop) (G : Nat) (X : List (List AV)) (L : List PV) (hkc : kc < ky F 0) (hk : k < ky F 0) (hne : kc ≠ k) (hg : hget h kc = some (mkRow [m, l, y, n] 0)) (g : LS true h k 8 l X) (kp : Kept Q G h X L) (hG : G ≤ F) (hQk : ∀ A B, Q A B → OutK k A B) (hU : LstI A' B' h ksW w U) (hUk : OutK k A' B') (hUB : B' ≤ F) (hn : L.length ≤ 90000) :
    SndQ Tryz.prog [] 17 [.ptr kc 0, w] ⟨h, F⟩ (fun o => ∃ l' h', o = .val (.int .i64 ((L.length - (tchL (U.map keyI) L).length : Nat) : Int)) ⟨h', F + 1 + 1⟩ ∧ hget h' kc = some (mkRow [m, l', y, n] 0) ∧ ((l' = .nils ∧ (kpZ (U.map keyI) X L L.length).map (·.1) = []) ∨ ∃ k', atKey l k' ∧ LS true h' k' 8 l' ((kpZ (U.map keyI) X L L.length).map (·.1))) ∧ ∀ i, i < ky F 0 → i ≠ kc → keyNe l i → hget h' i = hget h i) := by
  have mxl : maxLen = 9223372036854775807 := by decide
  refine sndQ_wf fun hw => ?_
  have kk := fun (a : Nat) => ky_old (a := a) hkc
  have kkr := fun (a : Nat) => ky_oldr (a := a) hkc
  have L1 : Low F h (hset h (ky F 0) (mkRow [w] 0)) := (Low.refl F h).set (Nat.le_refl F)
  have S1 := L1.same hw
  have iW := isCell_L hU.p
  have hXL : X.length = L.length := kp.1
  have hlX : LstP h ksP l X := g.lst kp.ok (by omega)
  have lA := fun (h2 : Heap) => g.len (h2 := h2) Tryz.underlying58
  have hgB : hget (hset h (ky F 0) (mkRow [w] 0)) kc = some (mkRow [m, l, y, n] 0) := (L1 kc hkc).trans hg
  have gB : LS true (hset h (ky F 0) (mkRow [w] 0)) k 8 l X := g.move (L1 k hk)
  have kpB := kp.low (L1.down hG)
  have hbB : rdAB (hget (hset h (ky F 0) (mkRow [w] 0)) (ky F 0)) 0 1 = some [w] := by rw [hget_hset, if_pos rfl]; rfl
  have hUB' := hU.move ((EqI.refl A' B' h).call L1 hUB)
  have hk1 : k < ky (F + 1) 0 := Nat.lt_of_lt_of_le hk (ky_mono (Nat.le_succ F))
  have hb1 : ky F 0 < ky (F + 1) 0 := ky_next F 0 (by decide)
  have xcW := cells_cell iW
  simp only [AV.cells] at xcW
  refine sndQ_body (K := (KR SC)) kr_ok mixed noNum (m := 0) Tryz.func17 ?_
  generalize hQ : retQ _ _ _ _ _ _ = Q0
  refine body_go (c := Tryz.f17.body.getD .skip) (n := 29) rfl rfl (by simp only [↓reduceIte, T.setList, T.set_e, T.set_n, Nat.reduceDiv, Nat.reduceMod, Nat.reduceEqDiff, Nat.zero_add] <;> rfl) ?_
  simp only [Tryz.f17, Option.getD_some]
  repeat' (first | refine st ?_ | ((with_reducible (first | apply r_any | apply r_cond)); focus (simp only [↓reduceIte, clsOf, clsCall, newBlk, allocOp, Fr.ev, evs, ofV, ofA, ofS, nVar, AV.cells, rowOf_mk, put_mk, upd_mk, keyOf_mk, pureOp, readOp, pFA, pFA1, pFA2, rLd, rdAB_row, oneCell_one, hget_hset_ite, pBin, binA, List.length_cons, List.length_nil, List.getElem?_cons_zero, List.getElem?_cons_succ, List.drop_zero, List.drop_succ_cons, List.take_succ_cons, List.take_zero, Nat.zero_add, Nat.add_zero, Nat.reduceAdd, Nat.reduceLT, Nat.reduceLeDiff, Nat.reduceEqDiff, Nat.reduceSub, Nat.add_eq, loadA_w, loadW_s, callTo_s, heavyCall, target, List.nil_append, List.append_nil, pNil, pMkF, binA, eqIn, eqGuardOk, stepOp, stHeavy, stV_mk, stB_mk, T.get_n, T.set_n, T.set_e, Nat.reduceDiv, Nat.reduceMod, Tryz.underlying39, sz58, ag58, Tryz.underlying89, stepAny, wantedA_none, rCall, rLen, kk, hg, lA, xcW] <;> rfl)))
  refine r_callC (S := SC) (f := 37) (by first | rfl | (simp only [wantedA_none, Tget_set])) (by simp only [callOuts, callTo_s, target, evs, Fr.ev, T.get_n, Nat.reduceEqDiff, Nat.reduceDiv, Nat.reduceMod, Nat.reduceSub, ↓reduceIte, List.nil_append, List.append_nil]; exact kc_miss rfl) ?_ ?_
  · exact delfQ hb1 (by omega) hk1 hbB hUB' hUk (by omega) gB kpB (by omega) hQk hn
  intro oo ho
  have hoN : l = .nils → ∃ l' h', oo = .val l' ⟨h', F + 1 + 1⟩ ∧ LS true h' kc 8 l' ((kpZ (U.map keyI) X L L.length).map (·.1)) ∧ LowK kc (F + 1) (hset h (ky F 0) (mkRow [w] 0)) h' := fun e => by
    have hX0 : X = [] := LS.uniq g (k' := k) (o' := true) (.inl ⟨e, rfl⟩)
    exact ho kc w U X L Q G hbB hUB'.p (.inl ⟨e, hX0⟩) kpB (Nat.lt_of_lt_of_le hkc (ky_mono (Nat.le_succ F)))
  obtain ⟨l2, h2, rfl, g2, lk2⟩ := ho k w U X L Q G hbB hUB'.p gB kpB hk1
  have lk2 : LowK k (F + 1) (hset h (ky F 0) (mkRow [w] 0)) h2 := lk2
  have hg2 : hget h2 kc = some (mkRow [m, l, y, n] 0) := (lk2 kc (Nat.lt_of_lt_of_le hkc (ky_mono (Nat.le_succ F))) hne).trans hgB
  have il2 := g2.cell
  have xl2 := g2.cls
  simp only [AV.cells] at xl2
  have lB := fun (h3 : Heap) => g2.len (h2 := h3) Tryz.underlying58
  have hKL : (List.map (fun x => x.1) (kpZ (U.map keyI) X L L.length)).length = (tchL (U.map keyI) L).length := by rw [List.length_map, ← kpZ_snd hXL, List.length_map]
  have htl := touch_len (U.map keyI) L
  have sb := intOp_sub (P := Tryz.prog) (t := 3) (show inR ((X.length : Int) - ((List.map (fun x => x.1) (kpZ (U.map keyI) X L L.length)).length : Int)) by unfold inR; omega)
  refine ⟨_, by simp only [put_mk, Nat.reduceLT, ↓reduceIte] <;> rfl, ?_⟩
  repeat' (first | refine st ?_ | ((with_reducible (first | apply r_any | apply r_cond)); focus (simp only [↓reduceIte, clsOf, clsCall, Fr.ev, AV.cells, put_mk, put_none, pureOp, readOp, pFA, pFA1, pFA2, rLd, rdAB_row, oneCell_one, hget_same, pBin, binA, List.length_cons, List.length_nil, List.getElem?_cons_zero, List.getElem?_cons_succ, List.drop_zero, List.drop_succ_cons, List.take_succ_cons, List.take_zero, Nat.zero_add, Nat.reduceAdd, Nat.reduceLT, Nat.reduceLeDiff, Nat.reduceEqDiff, Nat.reduceSub, and_self, Nat.add_eq, loadA_w, loadW_s, aSt_w, stOut_s, wrAB_row, ovr, List.set_cons_zero, List.set_cons_succ, allCell, actOp, pNil, binA, stepOp, stHeavy, stV_mk, stO_mk, T.get_n, T.set_n, T.set_e, Nat.reduceDiv, Nat.reduceMod, sz58, ag58, Tryz.underlying89, stepAny, wantedA_none, rCall, rLen, hg2, il2, xl2, lB, sb] <;> rfl)))
  subst hQ
  refine ret_back (by simp only [Tryz.results17, resultOf, resultsA, resultA, List.toList_toArray, Fr.ev, Tget_set, ↓reduceIte] <;> rfl) ?_
  refine ⟨l2, _, out_eq (by rw [show ((X.length : Int) - ((List.map (fun x => x.1) (kpZ (U.map keyI) X L L.length)).length : Int)) = ((L.length - (tchL (U.map keyI) L).length : Nat) : Int) by omega]), by rw [hget_hset, if_pos rfl], ?_, fun i hi hik hil => ?_⟩
  · have hkcl : kc ≠ k := hne
    rcases g with ⟨rfl, rfl⟩ | gO | ⟨e, _⟩
    · have e0 : L = [] := List.length_eq_zero_iff.1 hXL.symm
      subst e0
      rcases g2 with ⟨e1, _⟩ | ⟨p, q, _, _, e1⟩ | ⟨e, _⟩
      · exact .inl ⟨e1, rfl⟩
      · obtain ⟨l3, h3, e3, g3, _⟩ := hoN rfl
        cases e3
        rcases g3 with ⟨e4, _⟩ | ⟨p', q', _, _, e4⟩ | ⟨e, _⟩
        · rw [e4] at e1; cases e1
        · rw [e4] at e1
          injection e1 with e1
          exact absurd e1 hne
        · cases e
      · cases e
    · exact .inr ⟨k, gO.key, g2.move (by rw [hget_hset, if_neg (Ne.symm hne)])⟩
    · cases e
  · rw [hget_hset, if_neg hik]
    rcases id g with ⟨e, _⟩ | gO | ⟨e, _⟩
    · obtain ⟨l3, h3, e3, _, lk3⟩ := hoN e
      cases e3
      rw [lk3 i (Nat.lt_of_lt_of_le hi (ky_mono (Nat.le_succ F))) hik, L1 i hi]
    · rw [lk2 i (Nat.lt_of_lt_of_le hi (ky_mono (Nat.le_succ F))) (gO.ne hil), L1 i hi]
    · cases e

end Go.Proofs.YtmnhaoadhkdinaaGreatDoor

namespace Go.Proofs.YtmnhaoadhkdinaaGreatDoor
open Go Go.Ai
set_option maxRecDepth 100000

set_option maxHeartbeats 8000000 in
theorem touchB (h : Heap) (F kc k A' B' : Nat) (w : AV) (U : List (List AV)) (m l y n : AV) (Q : Nat → Nat → Prop) (G : Nat) (X : List (List AV)) (L : List PV) (hkc : kc < ky F 0) (hk : k < ky F 0) (hne : kc ≠ k) (hg : hget h kc = some (mkRow [m, l, y, n] 0)) (g : LS false h k 8 l X) (kp : Kept Q G h X L) (hG : G ≤ F) (hQk : ∀ A B, Q A B → OutK kc A B) (hU : LstI A' B' h ksW w U) (hUk : OutK kc A' B') (hUB : B' ≤ F) (hn : L.length ≤ 1024) (hnU : U.length ≤ 100000) (hsm : ∀ q ∈ L, smallP 100000 q) :
    SndQ Tryz.prog [] 18 [.ptr kc 0, w] ⟨h, F⟩ (fun o => ∃ l' h' F', o = .val (.int .i64 ((L.length - (tchL (U.map keyI) L).length : Nat) : Int)) ⟨h', F'⟩ ∧ F + 1 ≤ F' ∧ hget h' kc = some (mkRow [m, l', y, n] 0) ∧ ((l' = l ∧ (kpZ (U.map keyI) X L L.length).map (·.1) = X) ∨ ∃ k', ky F 0 ≤ k' ∧ k' < ky F' 0 ∧ LS false h' k' 8 l' ((kpZ (U.map keyI) X L L.length).map (·.1))) ∧ LowK kc F h h') := by
  have mxl : maxLen = 9223372036854775807 := by decide
  refine sndQ_wf fun hw => ?_
  have hXl : X.length = L.length := kp.1
  have hok := kp.ok
  refine sndQ_body (K := (KR SC)) kr_ok mixed noNum (m := L.length + 1) Tryz.func18 ?_
  generalize hQ : retQ _ _ _ _ _ _ = Q0
  refine body_go (c := Tryz.f18.body.getD .skip) (n := 31) rfl rfl (by simp only [↓reduceIte, T.setList, T.set_e, T.set_n, Nat.reduceDiv, Nat.reduceMod, Nat.reduceEqDiff, Nat.zero_add] <;> rfl) ?_
  simp only [Tryz.f18, Option.getD_some]
  repeat' (first | refine st ?_ | ((with_reducible (first | apply r_any | apply r_cond)); focus (simp only [↓reduceIte, clsOf, Fr.ev, ofV, ofA, ofS, put_mk, pureOp, Nat.reduceLT, Nat.reduceEqDiff, Nat.reduceSub, stepOp, stV_mk, T.set_n, T.set_e, Nat.reduceDiv, Nat.reduceMod, stepAny, wantedA_none] <;> rfl)))
  refine r_loop (I := fun nn fr s1 => ∃ lc tt h1 g1 j l1, fr = ⟨F, lc, 31, tt, [], .no⟩ ∧ s1 = ⟨h1, g1⟩ ∧ j ≤ L.length ∧ nn = L.length - j ∧ lc + nn * 1000 ≤ 100000000000000000000000000 ∧ F + 1 ≤ g1 ∧ ((kpZ (U.map keyI) X L j).map (·.1)).length ≤ j ∧ hget h1 kc = some (mkRow [m, l1, y, n] 0) ∧ ((l1 = l ∧ (kpZ (U.map keyI) X L j).map (·.1) ++ X.drop j = X) ∨ ∃ k1, ky F 0 ≤ k1 ∧ k1 < ky g1 0 ∧ LS false h1 k1 8 l1 ((kpZ (U.map keyI) X L j).map (·.1) ++ X.drop j)) ∧ LowK kc F h h1 ∧ LstP h1 ksP l1 ((kpZ (U.map keyI) X L j).map (·.1) ++ X.drop j) ∧ tt.get 0 = some (.ptr kc 0) ∧ tt.get 1 = some w ∧ tt.get 5 = some (.int .i64 ((j - (kpZ (U.map keyI) X L j).length : Nat) : Int)) ∧ tt.get 6 = some (.int .i64 ((kpZ (U.map keyI) X L j).length : Int))) (n := L.length) ?_ ?_ ?_
  · omega
  · refine ⟨_, _, _, _, 0, l, rfl, rfl, Nat.zero_le _, (Nat.sub_zero _).symm, by omega, Nat.le_refl _, by rw [List.length_map]; exact kpZ_len, hg, .inl ⟨rfl, rfl⟩, LowK.refl _ _ _, ?_, sd8, sd8, sd8, sd8⟩
    show LstP h ksP l X
    exact g.lst hok (by omega)
  rintro nn fr s1 ⟨lc, tt, h1, g1, j, l1, rfl, rfl, hj, rfl, hlc, hg1, hKj, hb, hgs, hlk, hl1, u0, u1, u5, u6⟩
  rw [List.length_map] at hKj
  have hXlen : ((kpZ (U.map keyI) X L j).map (·.1) ++ X.drop j).length = (kpZ (U.map keyI) X L j).length + (L.length - j) := by rw [List.length_append, List.length_map, List.length_drop, hXl]
  have lA := fun (h2 : Heap) => rLen1_L (h2 := h2) Tryz.underlying58 hl1
  rw [hXlen] at lA
  by_cases hjl : j < L.length
  rotate_left
  · obtain rfl : j = L.length := by omega
    have lf := lt_f (show ¬ (kpZ (U.map keyI) X L L.length).length < (kpZ (U.map keyI) X L L.length).length + (L.length - L.length) by omega)
    repeat' (first | refine st ?_ | ((with_reducible (first | apply r_any | apply r_cond)); focus (simp only [↓reduceIte, clsOf, clsCall, Fr.ev, put_mk, pureOp, readOp, pFA, pFA1, pFA2, rLd, rdAB_row, oneCell_one, pBin, binA, intOp_lss, List.length_cons, List.length_nil, List.getElem?_cons_zero, List.getElem?_cons_succ, List.drop_zero, List.drop_succ_cons, List.take_succ_cons, List.take_zero, Nat.zero_add, Nat.reduceAdd, Nat.reduceLT, Nat.reduceLeDiff, Nat.reduceEqDiff, Nat.add_eq, loadA_w, loadW_s, pNil, binA, stepOp, stV_mk, sz58, ag58, Tryz.underlying60, stepAny, wantedA_none, rCall, rLen, Tget_set, hb, lA, lf] <;> rfl)))
    subst hQ
    refine ret_back (by simp only [Tryz.results18, resultOf, resultsA, resultA, List.toList_toArray, Fr.ev, Tget_set, ↓reduceIte] <;> rfl) ?_
    have hKL : (kpZ (U.map keyI) X L L.length).length = (tchL (U.map keyI) L).length := by rw [← kpZ_snd hXl, List.length_map]
    rw [show X.drop L.length = [] from by rw [← hXl]; exact List.drop_length, List.append_nil] at hgs
    exact ⟨l1, h1, g1, out_eq (by rw [hKL]), hg1, hb, hgs, hlk⟩
  have hjX : j < X.length := by omega
  obtain ⟨A, B, hQ1, hBG, hPI⟩ := kp.2 j X[j] L[j] (List.getElem?_eq_getElem hjX) (List.getElem?_eq_getElem hjl)
  obtain ⟨p, hp⟩ : ∃ p, p = L[j] := ⟨_, rfl⟩
  rw [← hp] at hPI
  have hpj : L[j]? = some p := by rw [hp]; exact List.getElem?_eq_getElem hjl
  have hxj : X[j]? = some X[j] := List.getElem?_eq_getElem hjX
  have hP1 := hPI.move (hlk.eqI (hQk A B hQ1) (Nat.le_trans hBG hG))
  obtain ⟨okx, a, r, wr, i, ex, hA1, hR1, hW1, hI1⟩ := id hP1
  have hU1 := (hU.move (hlk.eqI hUk hUB)).p
  have hsp := hsm p (List.mem_of_getElem? hpj)
  have hKX : (kpZ (U.map keyI) X L j).length < ((kpZ (U.map keyI) X L j).map (·.1) ++ X.drop j).length := by omega
  have hgo : ∃ k1, LS false h1 k1 8 l1 ((kpZ (U.map keyI) X L j).map (·.1) ++ X.drop j) := by
    rcases hgs with ⟨e1, e⟩ | ⟨k1, _, _, g1'⟩
    · rw [e, e1]
      exact ⟨k, g.move (hlk k hk (Ne.symm hne))⟩
    · exact ⟨k1, g1'⟩
  obtain ⟨k1, gk1⟩ := hgo
  have hokX : ∀ x ∈ (kpZ (U.map keyI) X L j).map (·.1) ++ X.drop j, cksOk ksP x := hl1.1
  have hkc1 : kc < ky g1 0 := Nat.lt_of_lt_of_le hkc (ky_mono (by omega))
  obtain ⟨bb, o, eo, cap, el, rd0, _⟩ := hl1.at hKX
  have hat : ((kpZ (U.map keyI) X L j).map (·.1) ++ X.drop j)[(kpZ (U.map keyI) X L j).length] = [.int .i64 p.cl, .int .u64 p.tok, .str p.nm, a, .int .i64 p.how, r, wr, i] := by
    have : ((kpZ (U.map keyI) X L j).map (·.1) ++ X.drop j)[(kpZ (U.map keyI) X L j).length]? = some [.int .i64 p.cl, .int .u64 p.tok, .str p.nm, a, .int .i64 p.how, r, wr, i] := by
      rw [List.getElem?_append_right (by rw [List.length_map]; exact Nat.le_refl _), List.length_map, Nat.sub_self, List.getElem?_drop, Nat.add_zero, hxj, ex]
    rw [List.getElem?_eq_getElem hKX] at this
    exact Option.some.inj this
  rw [hat] at rd0
  have rd8 : rdAB (hget h1 bb) (o + (kpZ (U.map keyI) X L j).length * 8) 8 = some [.int .i64 p.cl, .int .u64 p.tok, .str p.nm, a, .int .i64 p.how, r, wr, i] := rd0
  rw [hXlen] at el hKX
  subst el
  have lt1 := lt_t hKX
  have kt := k_touB (S := SC) (F := g1) (c := p.cl) (t := p.tok) (how := p.how) (n := p.nm) (isCell_L hA1.p) (isCell_L hR1.p) (isCell_L hW1.p) hI1.p hU1 (hsp.2.2.2) hnU (SameH.refl h1)
  have pI := pIA_s (P := Tryz.prog) (id := bb) (off := o) (eo := eo) (cap := cap) Tryz.underlying58 sz34 hKX
  have adj : intOp Tryz.prog .add 3 .i64 .i64 ((kpZ (U.map keyI) X L j).length : Int) 1 = some (.int .i64 (((kpZ (U.map keyI) X L j).length + 1 : Nat) : Int)) := intOp_add (P := Tryz.prog) (t := 3) (show inR (((kpZ (U.map keyI) X L j).length : Int) + 1) by unfold inR; omega)
  have adn : intOp Tryz.prog .add 3 .i64 .i64 ((j - (kpZ (U.map keyI) X L j).length : Nat) : Int) 1 = some (.int .i64 ((j + 1 - (kpZ (U.map keyI) X L j).length : Nat) : Int)) := by
    rw [show j + 1 - (kpZ (U.map keyI) X L j).length = j - (kpZ (U.map keyI) X L j).length + 1 by omega]
    exact intOp_add (P := Tryz.prog) (t := 3) (show inR (((j - (kpZ (U.map keyI) X L j).length : Nat) : Int) + 1) by unfold inR; omega)
  have hsplit : X.drop j = X[j] :: X.drop (j + 1) := List.drop_eq_getElem_cons hjX
  by_cases hs : tch (U.map keyI) p
  · have hd := dec_t (p := ∃ c ∈ p.it, keyI c ∈ U.map keyI) hs
    have kz := kpZ_t (ks := U.map keyI) (X := X) hxj hpj hs
    have kzl : (kpZ (U.map keyI) X L (j + 1)).length = (kpZ (U.map keyI) X L j).length := by rw [kz]
    have er : ((kpZ (U.map keyI) X L j).map (·.1) ++ X.drop j).eraseIdx (kpZ (U.map keyI) X L j).length = (kpZ (U.map keyI) X L (j + 1)).map (·.1) ++ X.drop (j + 1) := by
      rw [hsplit, List.eraseIdx_append_of_length_le (by rw [List.length_map]; exact Nat.le_refl _), List.length_map, Nat.sub_self, List.eraseIdx_zero, List.tail_cons, kz]
    repeat' (first | refine st ?_ | ((with_reducible (first | apply r_any | apply r_cond)); focus (simp only [↓reduceIte, clsOf, clsCall, Fr.ev, evs, put_mk, pureOp, readOp, pFA, pFA1, pFA2, rLd, rdAB_row, oneCell_one, someAgg_s, pBin, binA, intOp_lss, List.length_cons, List.length_nil, List.getElem?_cons_zero, List.getElem?_cons_succ, List.drop_zero, List.drop_succ_cons, List.take_succ_cons, List.take_zero, Nat.zero_add, Nat.reduceAdd, Nat.reduceLT, Nat.reduceLeDiff, Nat.reduceEqDiff, Nat.add_eq, loadA_w, loadW_a, loadW_s, callTo_s, heavyCall, target, List.nil_append, List.append_nil, pNil, binA, stepOp, stHeavy, stV_mk, stO_mk, sz34, ag34, sz58, ag58, Tryz.underlying60, stepAny, wantedA_none, rCall, rLen, Tget_set, hb, lA, lt1, pI, rd8, kt, hd] <;> rfl)))
    refine r_callC (S := SC) (f := 33) (by first | rfl | (simp only [wantedA_none, Tget_set])) (by simp only [callOuts, callTo_s, target, evs, Fr.ev, Tget_set, Nat.reduceEqDiff, ↓reduceIte, List.nil_append, List.append_nil]; exact kc_miss rfl) ?_ ?_
    · exact outQ (k := k1) (i := (kpZ (U.map keyI) X L j).length) hkc1 hb gk1 hokX (by omega) (by omega)
    intro oo ho
    obtain ⟨v2, l2, h2, k2, rfl, hg2, g2, hk2a, hk2b, lk2⟩ := ho _ _ _ _ k1 _ (kpZ (U.map keyI) X L j).length hb gk1 hokX (by omega) rfl (by omega) hkc1
    have lk2 : LowK kc g1 h1 h2 := lk2
    have hk2a : ky g1 0 ≤ k2 := hk2a
    have hk2b : k2 < ky (g1 + 1) 0 := hk2b
    rw [er] at g2
    have hok2 : ∀ x ∈ (kpZ (U.map keyI) X L (j + 1)).map (·.1) ++ X.drop (j + 1), cksOk ksP x := fun x hx => hokX x (List.mem_of_mem_eraseIdx (by rw [er]; exact hx))
    refine ⟨_, by simp only [put_mk, Nat.reduceLT, ↓reduceIte] <;> rfl, ?_⟩
    repeat' (first | refine st ?_ | ((with_reducible (first | apply r_any | apply r_cond)); focus (simp only [↓reduceIte, clsOf, Fr.ev, ofV, ofA, ofS, put_mk, pureOp, pBin, binA, Nat.reduceLT, binA, stepOp, stV_mk, stepAny, wantedA_none, Tget_set, adn] <;> rfl)))
    exact r_rq_n (k := L.length - (j + 1)) (by omega) ⟨_, _, h2, g1 + 1, j + 1, l2, rfl, rfl, by omega, rfl, by omega, by omega, by rw [List.length_map]; omega, hg2, .inr ⟨k2, Nat.le_trans (ky_mono (by omega)) hk2a, hk2b, g2⟩, hlk.trans (lk2.down (by omega)), g2.lst hok2 (by rw [List.length_append, List.length_map, List.length_drop]; omega), sd8, sd8, (by first | (simp only [Tget_set, ↓reduceIte, kzl] <;> rfl) | rfl), (by first | (simp only [Tget_set, Nat.reduceEqDiff, ↓reduceIte, u6, kzl] <;> rfl) | rfl)⟩
  · have hd := dec_f (p := ∃ c ∈ p.it, keyI c ∈ U.map keyI) hs
    have kz := kpZ_f (ks := U.map keyI) (X := X) hxj hpj hs
    have kzl : (kpZ (U.map keyI) X L (j + 1)).length = (kpZ (U.map keyI) X L j).length + 1 := by rw [kz, List.length_append, List.length_singleton]
    have e5 : j + 1 - ((kpZ (U.map keyI) X L j).length + 1) = j - (kpZ (U.map keyI) X L j).length := by omega
    have er : (kpZ (U.map keyI) X L (j + 1)).map (·.1) ++ X.drop (j + 1) = (kpZ (U.map keyI) X L j).map (·.1) ++ X.drop j := by
      rw [hsplit, kz, List.map_append, List.append_assoc]; rfl
    repeat' (first | refine st ?_ | ((with_reducible (first | apply r_any | apply r_cond)); focus (simp only [↓reduceIte, clsOf, clsCall, Fr.ev, evs, ofV, ofA, ofS, put_mk, pureOp, readOp, pFA, pFA1, pFA2, rLd, rdAB_row, oneCell_one, someAgg_s, pBin, binA, intOp_lss, List.length_cons, List.length_nil, List.getElem?_cons_zero, List.getElem?_cons_succ, List.drop_zero, List.drop_succ_cons, List.take_succ_cons, List.take_zero, Nat.zero_add, Nat.reduceAdd, Nat.reduceLT, Nat.reduceLeDiff, Nat.reduceEqDiff, Nat.add_eq, loadA_w, loadW_a, loadW_s, callTo_s, heavyCall, target, List.nil_append, List.append_nil, pNil, binA, stepOp, stHeavy, stV_mk, stO_mk, sz34, ag34, sz58, ag58, Tryz.underlying60, stepAny, wantedA_none, rCall, rLen, Tget_set, hb, lA, lt1, pI, rd8, kt, hd, adj] <;> rfl)))
    exact r_rq_n (k := L.length - (j + 1)) (by omega) ⟨_, _, h1, g1, j + 1, _, rfl, rfl, by omega, rfl, by omega, hg1, by rw [List.length_map]; omega, hb, by rw [er]; exact hgs, hlk, by rw [er]; exact hl1, sd8, sd8, (by first | (simp only [Tget_set, Nat.reduceEqDiff, ↓reduceIte, u5, kzl, e5] <;> rfl) | rfl), (by first | (simp only [Tget_set, ↓reduceIte, kzl] <;> rfl) | rfl)⟩

end Go.Proofs.YtmnhaoadhkdinaaGreatDoor

namespace Go.Proofs.YtmnhaoadhkdinaaGreatDoor
open Go Go.Ai
set_option maxRecDepth 100000

set_option maxHeartbeats 4000000 in
theorem newNA (h : Heap) (F : Nat) (m : Int) : SndQ Tryz.prog [] 6 [.int .i64 m] ⟨h, F⟩ (fun o => (1 ≤ m ∧ m ≤ 1024 ∧ o = .val (.tup [.ptr (ky F 10) 0, .int .i64 0]) ⟨hset h (ky F 10) (mkRow [.int .i64 m, .nils, .int .i64 0, .int .i64 0] 0), F + 1⟩) ∨ (¬ (1 ≤ m ∧ m ≤ 1024) ∧ o = .val (.tup [.nilp, .int .i64 2]) ⟨h, F + 1⟩)) := by
  refine sndQ_wf fun hw => ?_
  by_cases h1 : m < 1
  · have e1 : decide (m < 1) = true := decide_eq_true h1
    refine sndQ_body (K := (KR SC)) kr_ok mixed noNum (m := 0) Tryz.func6 ?_
    generalize hQ : retQ _ _ _ _ _ _ = Q0
    refine body_go (c := Tryz.f6.body.getD .skip) (n := 13) rfl rfl (by simp only [↓reduceIte, T.setList, T.set_e] <;> rfl) ?_
    simp only [Tryz.f6, Option.getD_some]
    repeat' (first | refine st ?_ | ((with_reducible (first | apply r_any | apply r_cond)); focus (simp only [↓reduceIte, wantedA_eq, gBool_f, Bool.not_true, clsOf, Fr.ev, ofV, ofA, ofS, put_mk, pureOp, pBin, binA, intOp_lss, pPick, List.getElem?_cons_zero, List.getElem?_cons_succ, Nat.reduceLT, Nat.reduceEqDiff, Nat.reduceSub, binA, stepOp, stV_mk, T.get_n, T.set_n, T.set_e, Nat.reduceDiv, Nat.reduceMod, stepAny, wantedA_none, e1] <;> rfl)))
    subst hQ
    refine ret_back (by simp only [Tryz.results6, resultOf, resultsA, resultA, List.toList_toArray, Fr.ev, T.get_n, Nat.reduceDiv, Nat.reduceMod, Nat.reduceSub, Nat.reduceEqDiff, ↓reduceIte] <;> rfl) ?_
    exact .inr ⟨by omega, rfl⟩
  have e1 : decide (m < 1) = false := decide_eq_false h1
  by_cases h2 : 1024 < m
  · have e2 : decide (1024 < m) = true := decide_eq_true h2
    refine sndQ_body (K := (KR SC)) kr_ok mixed noNum (m := 0) Tryz.func6 ?_
    generalize hQ : retQ _ _ _ _ _ _ = Q0
    refine body_go (c := Tryz.f6.body.getD .skip) (n := 13) rfl rfl (by simp only [↓reduceIte, T.setList, T.set_e] <;> rfl) ?_
    simp only [Tryz.f6, Option.getD_some]
    repeat' (first | refine st ?_ | ((with_reducible (first | apply r_any | apply r_cond)); focus (simp only [↓reduceIte, clsOf, Fr.ev, ofV, ofA, ofS, put_mk, pureOp, pBin, binA, intOp_lss, intOp_gtr, pPick, Nat.reduceLT, Nat.reduceEqDiff, Nat.reduceSub, binA, stepOp, stV_mk, T.get_n, T.set_n, T.set_e, Nat.reduceDiv, Nat.reduceMod, stepAny, wantedA_none, e1, e2] <;> rfl)))
    subst hQ
    refine ret_back (by simp only [Tryz.results6, resultOf, resultsA, resultA, List.toList_toArray, Fr.ev, T.get_n, Nat.reduceDiv, Nat.reduceMod, Nat.reduceSub, Nat.reduceEqDiff, ↓reduceIte] <;> rfl) ?_
    exact .inr ⟨by omega, rfl⟩
  have e2 : decide (1024 < m) = false := decide_eq_false h2
  refine sndQ_body (K := (KR SC)) kr_ok mixed noNum (m := 0) Tryz.func6 ?_
  generalize hQ : retQ _ _ _ _ _ _ = Q0
  refine body_go (c := Tryz.f6.body.getD .skip) (n := 13) rfl rfl (by simp only [↓reduceIte, T.setList, T.set_e] <;> rfl) ?_
  simp only [Tryz.f6, Option.getD_some]
  repeat' (first | refine st ?_ | ((with_reducible (first | apply r_any | apply r_cond)); focus (simp only [↓reduceIte, clsOf, newBlk, allocOp, Fr.ev, evParts, ofV, ofA, ofS, nVar, AV.cells, rowOf_mk, put_mk, upd_mk, keyOf_mk, pureOp, pBin, binA, intOp_lss, intOp_gtr, pPick, List.length_cons, List.length_nil, List.getElem?_cons_zero, Nat.zero_add, Nat.reduceAdd, Nat.reduceLT, Nat.reduceEqDiff, Nat.reduceSub, pBuild, pBuild2, fieldsOk, buildParts, binA, stepOp, stV_mk, stB_mk, T.get_n, T.set_n, T.set_e, Nat.reduceDiv, Nat.reduceMod, sz3, sz58, zr89, Tryz.underlying89, stepAny, wantedA_none, e1, e2] <;> rfl)))
  subst hQ
  refine ret_back (by simp only [Tryz.results6, resultOf, resultsA, resultA, List.toList_toArray, Fr.ev, T.get_n, Nat.reduceDiv, Nat.reduceMod, Nat.reduceSub, Nat.reduceEqDiff, ↓reduceIte] <;> rfl) ?_
  exact .inl ⟨by omega, by omega, rfl⟩

set_option maxHeartbeats 4000000 in
theorem newNB (h : Heap) (F : Nat) (m : Int) : SndQ Tryz.prog [] 7 [.int .i64 m] ⟨h, F⟩ (fun o => (1 ≤ m ∧ m ≤ 1024 ∧ o = .val (.tup [.ptr (ky F 10) 0, .int .i64 0]) ⟨hset h (ky F 10) (mkRow [.int .i64 m, .nils, .int .i64 0, .int .i64 0] 0), F + 1⟩) ∨ (¬ (1 ≤ m ∧ m ≤ 1024) ∧ o = .val (.tup [.nilp, .int .i64 2]) ⟨h, F + 1⟩)) := by
  refine sndQ_wf fun hw => ?_
  by_cases h1 : m < 1
  · have e1 : decide (m < 1) = true := decide_eq_true h1
    refine sndQ_body (K := (KR SC)) kr_ok mixed noNum (m := 0) Tryz.func7 ?_
    generalize hQ : retQ _ _ _ _ _ _ = Q0
    refine body_go (c := Tryz.f7.body.getD .skip) (n := 13) rfl rfl (by simp only [↓reduceIte, T.setList, T.set_e] <;> rfl) ?_
    simp only [Tryz.f7, Option.getD_some]
    repeat' (first | refine st ?_ | ((with_reducible (first | apply r_any | apply r_cond)); focus (simp only [↓reduceIte, wantedA_eq, gBool_f, Bool.not_true, clsOf, Fr.ev, ofV, ofA, ofS, put_mk, pureOp, pBin, binA, intOp_lss, pPick, List.getElem?_cons_zero, List.getElem?_cons_succ, Nat.reduceLT, Nat.reduceEqDiff, Nat.reduceSub, binA, stepOp, stV_mk, T.get_n, T.set_n, T.set_e, Nat.reduceDiv, Nat.reduceMod, stepAny, wantedA_none, e1] <;> rfl)))
    subst hQ
    refine ret_back (by simp only [Tryz.results7, resultOf, resultsA, resultA, List.toList_toArray, Fr.ev, T.get_n, Nat.reduceDiv, Nat.reduceMod, Nat.reduceSub, Nat.reduceEqDiff, ↓reduceIte] <;> rfl) ?_
    exact .inr ⟨by omega, rfl⟩
  have e1 : decide (m < 1) = false := decide_eq_false h1
  by_cases h2 : 1024 < m
  · have e2 : decide (1024 < m) = true := decide_eq_true h2
    refine sndQ_body (K := (KR SC)) kr_ok mixed noNum (m := 0) Tryz.func7 ?_
    generalize hQ : retQ _ _ _ _ _ _ = Q0
    refine body_go (c := Tryz.f7.body.getD .skip) (n := 13) rfl rfl (by simp only [↓reduceIte, T.setList, T.set_e] <;> rfl) ?_
    simp only [Tryz.f7, Option.getD_some]
    repeat' (first | refine st ?_ | ((with_reducible (first | apply r_any | apply r_cond)); focus (simp only [↓reduceIte, clsOf, Fr.ev, ofV, ofA, ofS, put_mk, pureOp, pBin, binA, intOp_lss, intOp_gtr, pPick, Nat.reduceLT, Nat.reduceEqDiff, Nat.reduceSub, binA, stepOp, stV_mk, T.get_n, T.set_n, T.set_e, Nat.reduceDiv, Nat.reduceMod, stepAny, wantedA_none, e1, e2] <;> rfl)))
    subst hQ
    refine ret_back (by simp only [Tryz.results7, resultOf, resultsA, resultA, List.toList_toArray, Fr.ev, T.get_n, Nat.reduceDiv, Nat.reduceMod, Nat.reduceSub, Nat.reduceEqDiff, ↓reduceIte] <;> rfl) ?_
    exact .inr ⟨by omega, rfl⟩
  have e2 : decide (1024 < m) = false := decide_eq_false h2
  refine sndQ_body (K := (KR SC)) kr_ok mixed noNum (m := 0) Tryz.func7 ?_
  generalize hQ : retQ _ _ _ _ _ _ = Q0
  refine body_go (c := Tryz.f7.body.getD .skip) (n := 13) rfl rfl (by simp only [↓reduceIte, T.setList, T.set_e] <;> rfl) ?_
  simp only [Tryz.f7, Option.getD_some]
  repeat' (first | refine st ?_ | ((with_reducible (first | apply r_any | apply r_cond)); focus (simp only [↓reduceIte, clsOf, newBlk, allocOp, Fr.ev, evParts, ofV, ofA, ofS, nVar, AV.cells, rowOf_mk, put_mk, upd_mk, keyOf_mk, pureOp, pBin, binA, intOp_lss, intOp_gtr, pPick, List.length_cons, List.length_nil, List.getElem?_cons_zero, Nat.zero_add, Nat.reduceAdd, Nat.reduceLT, Nat.reduceEqDiff, Nat.reduceSub, pBuild, pBuild2, fieldsOk, buildParts, binA, stepOp, stV_mk, stB_mk, T.get_n, T.set_n, T.set_e, Nat.reduceDiv, Nat.reduceMod, sz3, sz58, zr60, Tryz.underlying60, stepAny, wantedA_none, e1, e2] <;> rfl)))
  subst hQ
  refine ret_back (by simp only [Tryz.results7, resultOf, resultsA, resultA, List.toList_toArray, Fr.ev, T.get_n, Nat.reduceDiv, Nat.reduceMod, Nat.reduceSub, Nat.reduceEqDiff, ↓reduceIte] <;> rfl) ?_
  exact .inl ⟨by omega, by omega, rfl⟩

section
variable {S : FuncId → List AV → St → Out → Prop}
set_option maxHeartbeats 2000000 in
theorem hitsA (h : Heap) (F k : Nat) (m l : AV) (y n : Int) (hk : k < ky F 0) (hg : hget h k = some (mkRow [m, l, .int .i64 y, .int .i64 n] 0)) : Snd Tryz.prog [] 19 [.ptr k 0] ⟨h, F⟩ [.val (.tup [.int .i64 y, .int .i64 n]) ⟨h, F⟩] := by
  refine snd_val (by simp [Kin, Kins]) fun hw => ?_
  have kk := fun (a : Nat) => ky_old (a := a) hk
  refine sndQ_body (K := (KR C0)) kr_ok mixed noNum (m := 0) Tryz.func19 ?_
  generalize hQ : retQ _ _ _ _ _ _ = Q0
  refine body_go (c := Tryz.f19.body.getD .skip) (n := 14) rfl rfl (by simp only [↓reduceIte, T.setList, T.set_e] <;> rfl) ?_
  simp only [Tryz.f19, Option.getD_some]
  repeat' (first | refine st ?_ | ((with_reducible apply (r_drawW (id := 3) (js := [0, 1, 2, 3, 4, 5, 6, 7, 8, 9]))); (focus kernel_rfl); (focus kernel_rfl); (focus (exact sd1))) | ((with_reducible apply d_end); (focus (simp only [List.length_cons, List.length_nil, Nat.reduceAdd, Nat.zero_add] <;> rfl))) | ((with_reducible apply d_any); (focus rfl); (iterate 2 (focus (simp only [↓reduceIte, clsOf, Fr.ev, put_mk, pureOp, readOp, pFA, pFA1, pFA2, rLd, rdAB_row, oneCell_one, List.length_cons, List.length_nil, List.getElem?_cons_zero, List.getElem?_cons_succ, List.drop_zero, List.drop_succ_cons, List.take_succ_cons, List.take_zero, Nat.zero_add, Nat.reduceAdd, Nat.reduceLT, Nat.reduceLeDiff, Nat.reduceEqDiff, Nat.reduceSub, Nat.add_eq, loadA_w, loadW_s, pNil, stepOp, stV_mk, T.get_n, T.set_n, T.set_e, Nat.reduceDiv, Nat.reduceMod, sz3, ag3, Tryz.underlying89, stepAny, wantedA_none, readSelf, av_int, hg] <;> rfl))); (focus (first | exact SameH.refl _ | (simp only [sameT, sameS hw]; done)))) | ((with_reducible apply r_drawL); (focus kernel_rfl); (focus kernel_rfl); (focus (exact sd1))) | ((with_reducible (first | apply r_any | apply r_cond)); focus (simp only [↓reduceIte, clsOf, Fr.ev, ofV, ofA, ofS, put_mk, pureOp, pBin, binA, Nat.reduceLT, Nat.reduceEqDiff, Nat.reduceSub, binA, eqIn, eqGuardOk, stepOp, stV_mk, T.get_n, T.set_n, T.set_e, Nat.reduceDiv, Nat.reduceMod, Tryz.underlying39, stepAny, wantedA_none] <;> rfl)))
  subst hQ
  refine ret_back (by simp only [Tryz.results19, resultOf, resultsA, resultA, List.toList_toArray, Fr.ev, T.get_n, Nat.reduceDiv, Nat.reduceMod, Nat.reduceSub, Nat.reduceEqDiff, ↓reduceIte] <;> rfl) ?_
  exact ⟨_, rfl, Same.base _ _ _⟩
theorem k_hits {h : Heap} {F k : Nat} {m l : AV} {y n : Int} (hk : k < ky F 0) (hg : hget h k = some (mkRow [m, l, .int .i64 y, .int .i64 n] 0)) : CallF.fn (KR S) 19 [.ptr k 0] ⟨h, F⟩ = some [.val (.tup [.int .i64 y, .int .i64 n]) ⟨h, F⟩] :=
  kr_fn ((rfl : _ = cHits [.ptr k 0] ⟨h, F⟩).trans (by simp only [cHits, hg]; rfl)) (hitsA h F k m l y n hk hg)
set_option maxHeartbeats 2000000 in
theorem lenC (h : Heap) (F k : Nat) (m l y n : AV) (X : List (List AV)) (hk : k < ky F 0) (hg : hget h k = some (mkRow [m, l, y, n] 0)) (hl : LstP h ksP l X) : Snd Tryz.prog [] 20 [.ptr k 0] ⟨h, F⟩ [.val (.int .i64 (X.length : Int)) ⟨h, F⟩] := by
  refine snd_val (by simp [Kin]) fun hw => ?_
  have lA := fun (h2 : Heap) => rLen1_L (h2 := h2) Tryz.underlying58 hl
  have kk := fun (a : Nat) => ky_old (a := a) hk
  refine sndQ_body (K := (KR C0)) kr_ok mixed noNum (m := 0) Tryz.func20 ?_
  generalize hQ : retQ _ _ _ _ _ _ = Q0
  refine body_go (c := Tryz.f20.body.getD .skip) (n := 10) rfl rfl (by simp only [↓reduceIte, T.setList, T.set_e] <;> rfl) ?_
  simp only [Tryz.f20, Option.getD_some]
  repeat' (first | refine st ?_ | ((with_reducible (first | apply r_any | apply r_cond)); focus (simp only [↓reduceIte, clsOf, clsCall, Fr.ev, ofV, ofA, ofS, put_mk, pureOp, readOp, pFA, pFA1, pFA2, rLd, rdAB_row, oneCell_one, pBin, binA, List.length_cons, List.length_nil, List.getElem?_cons_zero, List.getElem?_cons_succ, List.drop_zero, List.drop_succ_cons, List.take_succ_cons, List.take_zero, Nat.zero_add, Nat.reduceAdd, Nat.reduceLT, Nat.reduceLeDiff, Nat.reduceEqDiff, Nat.reduceSub, Nat.add_eq, loadA_w, loadW_s, pNil, binA, eqIn, eqGuardOk, stepOp, stV_mk, T.get_n, T.set_n, T.set_e, Nat.reduceDiv, Nat.reduceMod, Tryz.underlying39, sz58, ag58, Tryz.underlying89, stepAny, wantedA_none, rCall, rLen, hg, lA] <;> rfl)))
  subst hQ
  refine ret_back (by simp only [Tryz.results20, resultOf, resultsA, resultA, List.toList_toArray, Fr.ev, Tget_set, ↓reduceIte] <;> rfl) ?_
  exact ⟨_, rfl, Same.base _ _ _⟩
theorem k_len {h : Heap} {F k : Nat} {m l y n : AV} {X : List (List AV)} (hk : k < ky F 0) (hg : hget h k = some (mkRow [m, l, y, n] 0)) (hl : LstP h ksP l X) : CallF.fn (KR S) 20 [.ptr k 0] ⟨h, F⟩ = some [.val (.int .i64 (X.length : Int)) ⟨h, F⟩] :=
  kr_fn ((rfl : _ = cLen [.ptr k 0] ⟨h, F⟩).trans (by simp only [cLen, hg]; exact lenA_L Tryz.underlying58 hl)) (lenC h F k m l y n X hk hg hl)
set_option maxHeartbeats 2000000 in
theorem numA (h : Heap) (F : Nat) (e : Int) : Snd Tryz.prog [] 8 [.int .i64 e] ⟨h, F⟩ [.val (.int .i64 e) ⟨h, F⟩] := by
  refine snd_val (by simp [Kin]) fun hw => ?_
  refine sndQ_body (K := (KR C0)) kr_ok mixed noNum (m := 0) Tryz.func8 ?_
  generalize hQ : retQ _ _ _ _ _ _ = Q0
  refine body_go (c := Tryz.f8.body.getD .skip) (n := 4) rfl rfl (by simp only [↓reduceIte, T.setList, T.set_e] <;> rfl) ?_
  simp only [Tryz.f8, Option.getD_some]
  repeat' (first | refine st ?_ | ((with_reducible (first | apply r_any | apply r_cond)); focus (simp only [↓reduceIte, clsOf, Fr.ev, ofV, ofA, ofS, put_mk, pureOp, Nat.reduceLT, Nat.reduceEqDiff, Nat.reduceSub, stepOp, stV_mk, T.set_n, T.set_e, Nat.reduceDiv, Nat.reduceMod, stepAny, wantedA_none] <;> rfl)))
  subst hQ
  refine ret_back (by simp only [Tryz.results8, resultOf, resultsA, resultA, List.toList_toArray, Fr.ev, Tget_set, ↓reduceIte] <;> rfl) ?_
  exact ⟨_, rfl, Same.base _ _ _⟩
theorem k_num {h : Heap} {F : Nat} {e : Int} : CallF.fn (KR S) 8 [.int .i64 e] ⟨h, F⟩ = some [.val (.int .i64 e) ⟨h, F⟩] := kr_fn rfl (numA h F e)
theorem txt_at {h : Heap} {F : Nat} {a : AV} {R : List Tx} (hw : Wf ⟨h, F⟩) (hl : LstP h ksT a (tL R)) {i : Nat} (hi : i < R.length) : ∃ b o eo cap t, a = .slice b o eo R.length cap ∧ b < ky F 0 ∧ R[i]? = some t ∧ rdAB (hget h b) (o + i * 1) 1 = some [.str t] := by
  have hi' : i < (tL R).length := by rw [tL_len]; exact hi
  obtain ⟨b, o, eo, cap, e, h0, _⟩ := hl.at hi'
  have e2 : (tL R)[i] = [.str R[i]] := by simp [tL]
  rw [e2] at h0
  exact ⟨b, o, eo, cap, R[i], by rw [e, tL_len], rd_low hw h0, List.getElem?_eq_getElem hi, h0⟩
set_option maxHeartbeats 4000000 in
theorem textsA (h : Heap) (F : Nat) (a b : AV) (R : List Tx) (hA : LstP h ksT a (tL R)) (hB : LstP h ksT b (tL R)) : Snd Tryz.prog [] 57 [a, b] ⟨h, F⟩ [.val (.bool true) ⟨h, F⟩] := by
  refine snd_val (by simp [Kin]) fun hw => ?_
  have mxl : maxLen = 9223372036854775807 := by decide
  have lA := fun (h2 : Heap) => rLen1_L (h2 := h2) Tryz.underlying27 hA
  have lB := fun (h2 : Heap) => rLen1_L (h2 := h2) Tryz.underlying27 hB
  rw [tL_len] at lA lB
  have hl := hA.len
  rw [tL_len] at hl
  have bn := fun (a : Int) => show (a != a) = false by simp
  refine sndQ_body (K := (KR C0)) kr_ok mixed noNum (m := R.length + 1) Tryz.func57 ?_
  generalize hQ : retQ _ _ _ _ _ _ = Q0
  refine body_go (c := Tryz.f57.body.getD .skip) (n := 26) rfl rfl (by simp only [↓reduceIte, T.setList, T.set_e, T.set_n, Nat.reduceDiv, Nat.reduceMod, Nat.reduceEqDiff, Nat.zero_add] <;> rfl) ?_
  simp only [Tryz.f57, Option.getD_some]
  repeat' (first | refine st ?_ | ((with_reducible apply r_drawL); (focus kernel_rfl); (focus kernel_rfl); (focus (exact sd1))) | ((with_reducible (first | apply r_any | apply r_cond)); focus (simp only [↓reduceIte, clsOf, clsCall, Fr.ev, ofV, ofA, ofS, put_mk, pureOp, readOp, pBin, binA, intOp_neq, List.getElem?_cons_zero, Nat.reduceLT, Nat.reduceEqDiff, Nat.reduceSub, binA, bne_self_eq_false, stepOp, stV_mk, T.get_n, T.set_n, T.set_e, Nat.reduceDiv, Nat.reduceMod, stepAny, wantedA_none, rCall, rLen, lA, lB] <;> rfl)))
  refine r_loop (I := fun nn fr s1 => ∃ lc tt i, fr = ⟨F, lc, 26, tt, [], .no⟩ ∧ s1 = ⟨h, F + 1⟩ ∧ i ≤ R.length ∧ nn = R.length - i ∧ lc + nn * 1000 ≤ 100000000000000000000000000 ∧ tt.get 0 = some a ∧ tt.get 1 = some b ∧ tt.get 5 = some (.int .i64 (i : Int))) (n := R.length) ?_ ?_ ?_
  · omega
  · exact ⟨_, _, 0, rfl, rfl, Nat.zero_le _, (Nat.sub_zero _).symm, by omega, sd8, sd8, sd8⟩
  rintro nn fr s1 ⟨lc, tt, i, rfl, rfl, hi, rfl, hlc, u0, u1, u5⟩
  by_cases hil : i < R.length
  rotate_left
  · repeat' (first | refine st ?_ | ((with_reducible apply r_drawL); (focus kernel_rfl); (focus kernel_rfl); (focus (exact sd1))) | ((with_reducible (first | apply r_any | apply r_cond)); focus (simp only [↓reduceIte, clsOf, clsCall, Fr.ev, ofV, ofA, ofS, put_mk, pureOp, readOp, pBin, binA, intOp_lss, List.getElem?_cons_zero, Nat.reduceLT, Nat.reduceEqDiff, binA, stepOp, stV_mk, stepAny, wantedA_none, rCall, rLen, Tget_set, lA, lt_f hil] <;> rfl)))
    subst hQ
    refine ret_back (by simp only [Tryz.results57, resultOf, resultsA, resultA, List.toList_toArray, Fr.ev, Tget_set, ↓reduceIte] <;> rfl) ?_
    exact ⟨_, rfl, Same.base _ _ _⟩
  obtain ⟨b1, o1, eo1, cap1, t, rfl, hb1, ht1, r1⟩ := txt_at hw hA hil
  obtain ⟨b2, o2, eo2, cap2, t', rfl, hb2, ht2, r2⟩ := txt_at hw hB hil
  rw [ht1] at ht2
  cases ht2
  have e1 := str_ne_f t
  have ad := intOp_add (P := Tryz.prog) (t := 3) (inR_succ hil hl)
  repeat' (first | refine st ?_ | ((with_reducible apply (r_drawW (id := 6) (js := [0, 1, 2, 3, 4, 5, 6, 7, 8]))); (focus kernel_rfl); (focus kernel_rfl); (focus (exact sd1))) | ((with_reducible apply d_end); (focus (simp only [List.length_cons, List.length_nil, Nat.add_assoc, Nat.reduceAdd, Nat.zero_add] <;> rfl))) | ((with_reducible apply d_any); (focus rfl); (iterate 2 (focus (simp only [↓reduceIte, clsOf, Fr.ev, put_mk, pureOp, readOp, rLd, oneCell_one, pBin, binA, Nat.reduceLT, Nat.reduceEqDiff, loadA_w, loadW_s, binA, stepOp, stV_mk, sz9, ag9, stepAny, wantedA_none, readSelf, av_str, Tget_set, u0, u1, u5, pIA_s Tryz.underlying27 sz9 hil, r1, r2, e1] <;> rfl))); (focus (first | exact SameH.refl _ | (simp only [sameT, sameS hw]; done)))) | ((with_reducible apply r_drawL); (focus kernel_rfl); (focus kernel_rfl); (focus (exact sd1))) | ((with_reducible (first | apply r_any | apply r_cond)); focus (simp only [↓reduceIte, clsOf, clsCall, Fr.ev, ofV, ofA, ofS, put_mk, pureOp, readOp, pBin, binA, intOp_lss, List.getElem?_cons_zero, Nat.reduceLT, Nat.reduceEqDiff, binA, stepOp, stV_mk, Tryz.underlying27, stepAny, wantedA_none, rCall, rLen, rLen1_sl, lenA, Tget_set, lt_t hil, ad] <;> rfl)))
  exact r_rq_n (k := R.length - (i + 1)) (by omega) ⟨_, _, i + 1, rfl, rfl, by omega, rfl, by omega, sd8, sd8, sd8⟩
theorem k_texts {h h1 : Heap} {F : Nat} {a b : AV} {R : List Tx} (hA : LstP h ksT a (tL R)) (hB : LstP h ksT b (tL R)) (hs : SameH h h1) : CallF.fn (KR S) 57 [a, b] ⟨h1, F⟩ = some [.val (.bool true) ⟨h1, F⟩] :=
  kr_fn ((rfl : _ = cTexts [a, b] ⟨h1, F⟩).trans (by simp only [cTexts, txtO_eq (hA.same hs), txtO_eq (hB.same hs), dec_t])) (textsA h1 F a b R (hA.same hs) (hB.same hs))
set_option maxHeartbeats 4000000 in
theorem sameA (h : Heap) (F : Nat) (a b c d : AV) (R W : List Tx) (hA : LstP h ksT a (tL R)) (hB : LstP h ksT b (tL W)) (hC : LstP h ksT c (tL R)) (hD : LstP h ksT d (tL W)) : Snd Tryz.prog [] 35 [.agg [a, b], .agg [c, d]] ⟨h, F⟩ [.val (.bool true) ⟨h, F⟩] := by
  refine snd_val (by simp [Kin]) fun hw => ?_
  have k1 := fun (hh : Heap) (hs : SameH h hh) => k_texts (S := C0) (F := F + 1) hA hC hs
  have k2 := fun (hh : Heap) (hs : SameH h hh) => k_texts (S := C0) (F := F + 1) hB hD hs
  refine sndQ_body (K := (KR C0)) kr_ok mixed noNum (m := 0) Tryz.func35 ?_
  generalize hQ : retQ _ _ _ _ _ _ = Q0
  refine body_go (c := Tryz.f35.body.getD .skip) (n := 17) rfl rfl (by simp only [↓reduceIte, T.setList, T.set_e, T.set_n, Nat.reduceDiv, Nat.reduceMod, Nat.reduceEqDiff, Nat.zero_add] <;> rfl) ?_
  simp only [Tryz.f35, Option.getD_some]
  repeat' (first | refine st ?_ | ((with_reducible (first | apply r_any | apply r_cond)); focus (simp only [↓reduceIte, clsOf, clsCall, newBlk, allocOp, Fr.ev, evs, ofV, ofA, ofS, nVar, AV.cells, rowOf_mk, put_mk, upd_mk, keyOf_mk, ky_inj, pureOp, readOp, pFA, pFA1, pFA2, rLd, rdAB_row, oneCell_one, hget_same, hget_hset_ite, pPick, List.length_cons, List.length_nil, List.getElem?_cons_zero, List.getElem?_cons_succ, List.drop_zero, List.drop_succ_cons, List.take_succ_cons, List.take_zero, Nat.zero_add, Nat.add_zero, Nat.reduceAdd, Nat.reduceLT, Nat.reduceLeDiff, Nat.reduceEqDiff, Nat.reduceSub, Nat.add_eq, loadA_w, loadW_s, callTo_s, heavyCall, target, List.nil_append, List.append_nil, stepOp, stHeavy, stV_mk, stB_mk, stO_mk, T.get_n, T.set_n, T.set_e, Nat.reduceDiv, Nat.reduceMod, sz27, ag27, Tryz.underlying29, stepAny, wantedA_none, k1, k2, sameS hw, sameT] <;> rfl)))
  subst hQ
  refine ret_back (by simp only [Tryz.results35, resultOf, resultsA, resultA, List.toList_toArray, Fr.ev, Tget_set, ↓reduceIte] <;> rfl) ?_
  exact ⟨_, rfl, by repeat (first | exact Same.base _ _ _ | refine Same.hset hw ?_ (ky_le _ _))⟩
theorem k_same {h h1 : Heap} {F : Nat} {a b c d : AV} {R W : List Tx} (hA : LstP h ksT a (tL R)) (hB : LstP h ksT b (tL W)) (hC : LstP h ksT c (tL R)) (hD : LstP h ksT d (tL W)) (hs : SameH h h1) : CallF.fn (KR S) 35 [.agg [a, b], .agg [c, d]] ⟨h1, F⟩ = some [.val (.bool true) ⟨h1, F⟩] :=
  kr_fn ((rfl : _ = cSame [.agg [a, b], .agg [c, d]] ⟨h1, F⟩).trans (by simp only [cSame, txtO_eq (hA.same hs), txtO_eq (hB.same hs), txtO_eq (hC.same hs), txtO_eq (hD.same hs), and_self, dec_t])) (sameA h1 F a b c d R W (hA.same hs) (hB.same hs) (hC.same hs) (hD.same hs))
set_option maxHeartbeats 8000000 in
theorem eq9A (h : Heap) (F : Nat) (c t : Int) (n : Tx) (a b : AV) (V : List (List AV)) (hA : LstP h ksV a V) (hB : LstP h ksV b V) : Snd Tryz.prog [] 34 [.agg [.int .i64 c, .int .u64 t, .str n, a], .agg [.int .i64 c, .int .u64 t, .str n, b]] ⟨h, F⟩ [.val (.bool true) ⟨h, F⟩] := by
  refine snd_val (by simp [Kin]) fun hw => ?_
  have mxl : maxLen = 9223372036854775807 := by decide
  have lA := fun (h2 : Heap) => rLen1_L (h2 := h2) Tryz.underlying24 hA
  have lB := fun (h2 : Heap) => rLen1_L (h2 := h2) Tryz.underlying24 hB
  have hlA := hA.len
  have bn := fun (a : Int) => show (a != a) = false by simp
  have e1 := str_ne_f n
  refine sndQ_body (K := (KR C0)) kr_ok mixed noNum (m := V.length + 1) Tryz.func34 ?_
  generalize hQ : retQ _ _ _ _ _ _ = Q0
  refine body_go (c := Tryz.f34.body.getD .skip) (n := 52) rfl rfl (by simp only [↓reduceIte, T.setList, T.set_e, T.set_n, Nat.reduceDiv, Nat.reduceMod, Nat.reduceEqDiff, Nat.zero_add] <;> rfl) ?_
  simp only [Tryz.f34, Option.getD_some]
  repeat' (first | refine st ?_ | ((with_reducible apply r_drawL); (focus kernel_rfl); (focus kernel_rfl); (focus (exact sd1))) | ((with_reducible (first | apply r_any | apply r_cond)); focus (simp only [↓reduceIte, clsOf, clsCall, newBlk, allocOp, Fr.ev, ofV, ofA, ofS, nVar, AV.cells, rowOf_mk, put_mk, upd_mk, keyOf_mk, ky_inj, pureOp, readOp, pFA, pFA1, pFA2, rLd, rdAB_row, oneCell_one, hget_same, hget_hset_ite, pBin, binA, intOp_neq, pPick, List.length_cons, List.length_nil, List.getElem?_cons_zero, List.getElem?_cons_succ, List.drop_zero, List.drop_succ_cons, List.take_succ_cons, List.take_zero, Nat.zero_add, Nat.add_zero, Nat.reduceAdd, Nat.reduceLT, Nat.reduceLeDiff, Nat.reduceEqDiff, Nat.reduceSub, Nat.add_eq, loadA_w, loadW_s, binA, bne_self_eq_false, stepOp, stV_mk, stB_mk, T.get_n, T.set_n, T.set_e, Nat.reduceDiv, Nat.reduceMod, sz3, ag3, sz9, ag9, sz23, ag23, sz24, ag24, Tryz.underlying26, stepAny, wantedA_none, rCall, rLen, lA, lB, e1] <;> rfl)))
  refine r_loop (I := fun nn fr s1 => ∃ lc tt i, fr = ⟨F, lc, 52, tt, [], .no⟩ ∧ s1 = ⟨(hset (hset h (ky F 0) (mkRow [.int .i64 c, .int .u64 t, .str n, a] 0)) (ky F 1) (mkRow [.int .i64 c, .int .u64 t, .str n, b] 0)), F + 1⟩ ∧ i ≤ V.length ∧ nn = V.length - i ∧ lc + nn * 1000 ≤ 100000000000000000000000000 ∧ tt.get 2 = some (.ptr (ky F 0) 0) ∧ tt.get 3 = some (.ptr (ky F 1) 0) ∧ tt.get 5 = some (.int .i64 (i : Int))) (n := V.length) ?_ ?_ ?_
  · omega
  · exact ⟨_, _, 0, rfl, rfl, Nat.zero_le _, (Nat.sub_zero _).symm, by omega, sd8, sd8, sd8⟩
  rintro nn fr s1 ⟨lc, tt, i, rfl, rfl, hi, rfl, hlc, u2, u3, u5⟩
  by_cases hil : i < V.length
  rotate_left
  · repeat' (first | refine st ?_ | ((with_reducible apply r_drawL); (focus kernel_rfl); (focus kernel_rfl); (focus (exact sd1))) | ((with_reducible (first | apply r_any | apply r_cond)); focus (simp only [↓reduceIte, clsOf, clsCall, Fr.ev, ofV, ofA, ofS, put_mk, ky_inj, pureOp, readOp, pFA, pFA1, pFA2, rLd, rdAB_row, oneCell_one, hget_same, hget_hset_ite, pBin, binA, intOp_lss, List.length_cons, List.length_nil, List.getElem?_cons_zero, List.getElem?_cons_succ, List.drop_zero, List.drop_succ_cons, List.take_succ_cons, List.take_zero, Nat.zero_add, Nat.reduceAdd, Nat.reduceLT, Nat.reduceLeDiff, Nat.reduceEqDiff, Nat.add_eq, loadA_w, loadW_s, binA, stepOp, stV_mk, sz24, ag24, Tryz.underlying26, stepAny, wantedA_none, rCall, rLen, Tget_set, u2, lA, lt_f hil] <;> rfl)))
    subst hQ
    refine ret_back (by simp only [Tryz.results34, resultOf, resultsA, resultA, List.toList_toArray, Fr.ev, Tget_set, ↓reduceIte] <;> rfl) ?_
    exact ⟨_, rfl, by repeat (first | exact Same.base _ _ _ | refine Same.hset hw ?_ (ky_le _ _))⟩
  have ad := intOp_add (P := Tryz.prog) (t := 3) (inR_succ hil hlA)
  obtain ⟨b1, o1, eo1, cap1, k, m, tx, rfl, hb1, hV, r1⟩ := val_at hw hA (SameH.refl h) hil
  obtain ⟨b2, o2, eo2, cap2, k', m', tx', rfl, hb2, hU, r2⟩ := val_at hw hB (SameH.refl h) hil
  rw [hV] at hU
  have hU2 := hU
  simp only [List.cons.injEq, AV.int.injEq, AV.str.injEq, true_and, and_true] at hU2
  obtain ⟨rfl, rfl, rfl⟩ := hU2
  have d1 : dec True = true := dec_t trivial
  repeat' (first | refine st ?_ | ((with_reducible apply (r_drawW (id := 6) (js := [0, 1, 2, 3, 4, 5, 6, 7, 8, 9, 10]))); (focus kernel_rfl); (focus kernel_rfl); (focus (exact sd1))) | ((with_reducible apply d_end); (focus (simp only [List.length_cons, List.length_nil, Nat.add_assoc, Nat.reduceAdd, Nat.zero_add] <;> rfl))) | ((with_reducible apply d_any); (focus rfl); (iterate 2 (focus (simp only [↓reduceIte, Bool.not_true, Bool.not_false, clsOf, Fr.ev, put_mk, ky_inj, pureOp, readOp, pFA, pFA1, pFA2, rLd, rdAB_row, oneCell_one, someAgg_s, hget_same, hget_hset_ite, pBin, binA, List.length_cons, List.length_nil, List.getElem?_cons_zero, List.getElem?_cons_succ, List.drop_zero, List.drop_succ_cons, List.take_succ_cons, List.take_zero, Nat.zero_add, Nat.reduceAdd, Nat.reduceLT, Nat.reduceLeDiff, Nat.reduceEqDiff, Nat.add_eq, loadA_w, loadW_a, loadW_s, binA, eqGuardOk, Bool.and_true, stepOp, stV_mk, sz24, ag24, Tryz.underlying26, sz64, ag64, stepAny, wantedA_none, readSelf, av_str, av_int, av_sl, av_agg, avs_nil, avs_cons, Tget_set, u2, u3, u5, pIA_s Tryz.underlying24 sz64 hil, r1, r2, ky_old hb1, ky_old hb2, ↓eqV100, eg64, d1] <;> rfl))); (focus (first | exact SameH.refl _ | (simp only [sameT, sameS hw]; done)))) | ((with_reducible apply r_drawL); (focus kernel_rfl); (focus kernel_rfl); (focus (exact sd1))) | ((with_reducible (first | apply r_any | apply r_cond)); focus (simp only [↓reduceIte, clsOf, clsCall, Fr.ev, ofV, ofA, ofS, put_mk, ky_inj, pureOp, readOp, pFA, pFA1, pFA2, rLd, rdAB_row, oneCell_one, hget_same, hget_hset_ite, pBin, binA, intOp_lss, List.length_cons, List.length_nil, List.getElem?_cons_zero, List.getElem?_cons_succ, List.drop_zero, List.drop_succ_cons, List.take_succ_cons, List.take_zero, Nat.zero_add, Nat.reduceAdd, Nat.reduceLT, Nat.reduceLeDiff, Nat.reduceEqDiff, Nat.add_eq, loadA_w, loadW_s, binA, stepOp, stV_mk, sz24, ag24, Tryz.underlying26, stepAny, wantedA_none, rCall, rLen, Tget_set, u2, lA, lt_t hil, ad] <;> rfl)))
  exact r_rq_n (k := V.length - (i + 1)) (by omega) ⟨_, _, i + 1, rfl, rfl, by omega, rfl, by omega, sd8, sd8, sd8⟩
theorem k_eq9 {h h1 : Heap} {F : Nat} {c t : Int} {n : Tx} {a b : AV} {V : List (List AV)} (hA : LstP h ksV a V) (hB : LstP h ksV b V) (hs : SameH h h1) : CallF.fn (KR S) 34 [.agg [.int .i64 c, .int .u64 t, .str n, a], .agg [.int .i64 c, .int .u64 t, .str n, b]] ⟨h1, F⟩ = some [.val (.bool true) ⟨h1, F⟩] :=
  kr_fn ((rfl : _ = cEq9 [.agg [.int .i64 c, .int .u64 t, .str n, a], .agg [.int .i64 c, .int .u64 t, .str n, b]] ⟨h1, F⟩).trans (by simp only [cEq9, lstOf_same hA hs, lstOf_same hB hs, and_self, dec_t])) (eq9A h1 F c t n a b V (hA.same hs) (hB.same hs))
end

end Go.Proofs.YtmnhaoadhkdinaaGreatDoor

namespace Go.Proofs.YtmnhaoadhkdinaaGreatDoor
open Go Go.Ai
set_option maxRecDepth 100000

theorem eg66 : Tryz.prog.eqGuardType Tryz.prog.depth 66 = false := by kernel_rfl
theorem si66 : Tryz.prog.stoodInHeld 66 = false := by kernel_rfl
theorem eqI100 (k t : Tx) (v n : Int) : eqIn Tryz.prog 100 66 (.agg [.str k, .int .i64 v, .int .i64 n, .str t]) (.agg [.str k, .int .i64 v, .int .i64 n, .str t]) = some true := by
  rw [eq_struct Tryz.underlying66 si66]
  have h3 := eqV 97 v n v n t t
  rw [dec_t rfl] at h3
  simp only [eqFs, partA, ag9, ag64, sz64, List.getElem?_cons_zero, eq_str Tryz.underlying9, beq_self_eq_true, String.reduceBEq, List.drop_succ_cons, List.drop_zero, List.take_succ_cons, List.take_zero, h3]
  try rfl
section
variable {S : FuncId → List AV → St → Out → Prop}
set_option maxHeartbeats 16000000 in
theorem equalA (h : Heap) (F : Nat) (p : PV) (x1 x2 : List AV) (hp1 : PasP h x1 p) (hp2 : PasP h x2 p) (hn : p.it.length ≤ 100000) : Snd Tryz.prog [] 12 [.agg x1, .agg x2] ⟨h, F⟩ [.val (.bool true) ⟨h, F⟩] := by
  obtain ⟨_, a1, r1, w1, i1, rfl, hA1, hR1, hW1, hI1⟩ := hp1
  obtain ⟨_, a2, r2, w2, i2, rfl, hA2, hR2, hW2, hI2⟩ := hp2
  refine snd_val (by simp [Kin]) fun hw => ?_
  have mxl : maxLen = 9223372036854775807 := by decide
  have lA := fun (h2 : Heap) => rLen1_L (h2 := h2) Tryz.underlying32 hI1
  have lB := fun (h2 : Heap) => rLen1_L (h2 := h2) Tryz.underlying32 hI2
  have bn := fun (a : Int) => show (a != a) = false by simp
  have k9 := fun (hh : Heap) (hs : SameH h hh) => k_eq9 (S := C0) (F := F + 1) (c := p.cl) (t := p.tok) (n := p.nm) hA1 hA2 hs
  have kS := fun (hh : Heap) (hs : SameH h hh) => k_same (S := C0) (F := F + 1) hR1 hW1 hR2 hW2 hs
  have sI1 := av_self_L hI1
  have sI2 := av_self_L hI2
  refine sndQ_body (K := (KR C0)) kr_ok mixed noNum (m := p.it.length + 1) Tryz.func12 ?_
  generalize hQ : retQ _ _ _ _ _ _ = Q0
  refine body_go (c := Tryz.f12.body.getD .skip) (n := 60) rfl rfl (by simp only [↓reduceIte, T.setList, T.set_e, T.set_n, Nat.reduceDiv, Nat.reduceMod, Nat.reduceEqDiff, Nat.zero_add] <;> rfl) ?_
  simp only [Tryz.f12, Option.getD_some]
  repeat' (first | refine st ?_ | ((with_reducible apply r_drawL); (focus kernel_rfl); (focus kernel_rfl); (focus (exact sd1))) | ((with_reducible (first | apply r_any | apply r_cond)); focus (simp only [↓reduceIte, Bool.not_true, clsOf, clsCall, newBlk, allocOp, Fr.ev, evs, ofV, ofA, ofS, nVar, AV.cells, rowOf_mk, put_mk, upd_mk, keyOf_mk, ky_inj, pureOp, readOp, pFA, pFA1, pFA2, rLd, rdAB_row, oneCell_one, someAgg_s, hget_same, hget_hset_ite, pBin, binA, intOp_neq, pPick, List.length_cons, List.length_nil, List.getElem?_cons_zero, List.getElem?_cons_succ, List.drop_zero, List.drop_succ_cons, List.take_succ_cons, List.take_zero, Nat.zero_add, Nat.add_zero, Nat.reduceAdd, Nat.reduceLT, Nat.reduceLeDiff, Nat.reduceEqDiff, Nat.reduceSub, Nat.add_eq, loadA_w, loadW_a, loadW_s, pUn_not, callTo_s, heavyCall, target, List.nil_append, List.append_nil, binA, bne_self_eq_false, stepOp, stHeavy, stV_mk, stB_mk, stO_mk, T.get_n, T.set_n, T.set_e, Nat.reduceDiv, Nat.reduceMod, sz3, ag3, sz26, ag26, sz29, ag29, sz31, Tryz.underlying31, sz32, ag32, Tryz.underlying34, stepAny, wantedA_none, rCall, rLen, lA, lB, k9, kS, sameS hw, sameT] <;> rfl)))
  refine r_loop (I := fun nn fr s1 => ∃ lc tt i, fr = ⟨F, lc, 60, tt, [], .no⟩ ∧ s1 = ⟨(hset (hset h (ky F 0) (mkRow [.int .i64 p.cl, .int .u64 p.tok, .str p.nm, a1, .int .i64 p.how, r1, w1, i1] 0)) (ky F 1) (mkRow [.int .i64 p.cl, .int .u64 p.tok, .str p.nm, a2, .int .i64 p.how, r2, w2, i2] 0)), F + 1⟩ ∧ i ≤ p.it.length ∧ nn = p.it.length - i ∧ lc + nn * 1000 ≤ 100000000000000000000000000 ∧ tt.get 2 = some (.ptr (ky F 0) 0) ∧ tt.get 3 = some (.ptr (ky F 1) 0) ∧ tt.get 5 = some (.int .i64 (i : Int))) (n := p.it.length) ?_ ?_ ?_
  · omega
  · exact ⟨_, _, 0, rfl, rfl, Nat.zero_le _, (Nat.sub_zero _).symm, by omega, sd8, sd8, sd8⟩
  rintro nn fr s1 ⟨lc, tt, i, rfl, rfl, hi, rfl, hlc, u2, u3, u5⟩
  by_cases hil : i < p.it.length
  rotate_left
  · repeat' (first | refine st ?_ | ((with_reducible apply r_drawL); (focus kernel_rfl); (focus kernel_rfl); (focus (exact sd1))) | ((with_reducible (first | apply r_any | apply r_cond)); focus (simp only [↓reduceIte, clsOf, clsCall, Fr.ev, ofV, ofA, ofS, put_mk, ky_inj, pureOp, readOp, pFA, pFA1, pFA2, rLd, rdAB_row, oneCell_one, hget_same, hget_hset_ite, pBin, binA, intOp_lss, List.length_cons, List.length_nil, List.getElem?_cons_zero, List.getElem?_cons_succ, List.drop_zero, List.drop_succ_cons, List.take_succ_cons, List.take_zero, Nat.zero_add, Nat.reduceAdd, Nat.reduceLT, Nat.reduceLeDiff, Nat.reduceEqDiff, Nat.add_eq, loadA_w, loadW_s, binA, stepOp, stV_mk, sz32, ag32, Tryz.underlying34, stepAny, wantedA_none, rCall, rLen, Tget_set, u2, lA, lt_f hil] <;> rfl)))
    subst hQ
    refine ret_back (by simp only [Tryz.results12, resultOf, resultsA, resultA, List.toList_toArray, Fr.ev, Tget_set, ↓reduceIte] <;> rfl) ?_
    exact ⟨_, rfl, by repeat (first | exact Same.base _ _ _ | refine Same.hset hw ?_ (ky_le _ _))⟩
  have ad := intOp_add (P := Tryz.prog) (t := 3) (inR_succ hil (by omega : p.it.length ≤ maxLen))
  obtain ⟨b1, o1, eo1, cap1, k, v0, v1, tx, el1, hb1, hV, q1⟩ := it_at hw hI1 hil
  obtain ⟨b2, o2, eo2, cap2, k', v0', v1', tx', el2, hb2, hU, q2⟩ := it_at hw hI2 hil
  rw [hV] at hU
  simp only [Option.some.injEq, List.cons.injEq, AV.int.injEq, AV.str.injEq, true_and, and_true] at hU
  obtain ⟨rfl, rfl, rfl, rfl⟩ := hU
  subst el1 el2
  repeat' (first | refine st ?_ | ((with_reducible apply (r_drawW (id := 6) (js := [0, 1, 2, 3, 4, 5, 6, 7, 8, 9, 10]))); (focus kernel_rfl); (focus kernel_rfl); (focus (exact sd1))) | ((with_reducible apply d_end); (focus (simp only [List.length_cons, List.length_nil, Nat.add_assoc, Nat.reduceAdd, Nat.zero_add] <;> rfl))) | ((with_reducible apply d_any); (focus rfl); (iterate 2 (focus (simp only [↓reduceIte, Bool.not_true, Bool.not_false, clsOf, Fr.ev, put_mk, ky_inj, pureOp, readOp, pFA, pFA1, pFA2, rLd, rdAB_row, oneCell_one, someAgg_s, hget_same, hget_hset_ite, pBin, binA, List.length_cons, List.length_nil, List.getElem?_cons_zero, List.getElem?_cons_succ, List.drop_zero, List.drop_succ_cons, List.take_succ_cons, List.take_zero, Nat.zero_add, Nat.reduceAdd, Nat.reduceLT, Nat.reduceLeDiff, Nat.reduceEqDiff, Nat.add_eq, loadA_w, loadW_a, loadW_s, binA, eqGuardOk, Bool.and_true, stepOp, stV_mk, sz32, ag32, Tryz.underlying34, sz66, ag66, stepAny, wantedA_none, readSelf, av_str, av_int, av_sl, av_agg, avs_nil, avs_cons, Tget_set, u2, u3, u5, pIA_s Tryz.underlying32 sz66 hil, q1, q2, ky_old hb1, ky_old hb2, ↓eqI100, eg66] <;> rfl))); (focus (first | exact SameH.refl _ | (simp only [sameT, sameS hw]; done)))) | ((with_reducible apply r_drawL); (focus kernel_rfl); (focus kernel_rfl); (focus (exact sd1))) | ((with_reducible (first | apply r_any | apply r_cond)); focus (simp only [↓reduceIte, clsOf, clsCall, Fr.ev, ofV, ofA, ofS, put_mk, ky_inj, pureOp, readOp, pFA, pFA1, pFA2, rLd, rdAB_row, oneCell_one, hget_same, hget_hset_ite, pBin, binA, intOp_lss, List.length_cons, List.length_nil, List.getElem?_cons_zero, List.getElem?_cons_succ, List.drop_zero, List.drop_succ_cons, List.take_succ_cons, List.take_zero, Nat.zero_add, Nat.reduceAdd, Nat.reduceLT, Nat.reduceLeDiff, Nat.reduceEqDiff, Nat.add_eq, loadA_w, loadW_s, binA, stepOp, stV_mk, sz32, ag32, Tryz.underlying34, stepAny, wantedA_none, rCall, rLen, Tget_set, u2, lA, lt_t hil, ad] <;> rfl)))
  exact r_rq_n (k := p.it.length - (i + 1)) (by omega) ⟨_, _, i + 1, rfl, rfl, by omega, rfl, by omega, sd8, sd8, sd8⟩
theorem k_equal {h h1 : Heap} {F : Nat} {p : PV} {x1 x2 : List AV} (hp1 : PasP h x1 p) (hp2 : PasP h x2 p) (hn : p.it.length ≤ 100000) (hs : SameH h h1) : CallF.fn (KR S) 12 [.agg x1, .agg x2] ⟨h1, F⟩ = some [.val (.bool true) ⟨h1, F⟩] :=
  kr_fn ((rfl : _ = cEqP [.agg x1, .agg x2] ⟨h1, F⟩).trans (by simp only [cEqP, (hp1.same hs).one, (hp2.same hs).one, dec_t])) (equalA h1 F p x1 x2 (hp1.same hs) (hp2.same hs) hn)
end

end Go.Proofs.YtmnhaoadhkdinaaGreatDoor

namespace Go.Proofs.YtmnhaoadhkdinaaGreatDoor
open Go Go.Ai
set_option maxRecDepth 100000

/-- rows stay rows, as long as they were -/
def KeepR (F : Nat) (h h1 : Heap) : Prop := ∀ (b : Nat) (cells : List AV) (e2 : Nat), b < ky F 0 → hget h b = some (mkRow cells e2) → ∃ cells', hget h1 b = some (mkRow cells' e2) ∧ cells'.length = cells.length
/-- no block of this list -/
def keyN (l : AV) (i : Nat) : Prop := ∀ b o e n c, l = .slice b o e n c → 0 < n → i ≠ b
/-- nothing is changed but the blocks of these lists -/
def Chg (x : List AV) (F : Nat) (h h1 : Heap) : Prop := ∀ b, b < ky F 0 → (∀ a ∈ x, keyN a b) → hget h1 b = hget h b
theorem KeepR.set {F b : Nat} {h h1 : Heap} {cells c2 : List AV} {e2 : Nat} (k : KeepR F h h1) (hb : b < ky F 0) (hg : hget h1 b = some (mkRow cells e2)) (hl : c2.length = cells.length) : KeepR F h (hset h1 b (mkRow c2 e2)) := fun i ci ei hi hgi => by
  obtain ⟨c', h2, h3⟩ := k i ci ei hi hgi
  by_cases e : i = b
  · subst e
    rw [hg] at h2
    have h4 := Option.some.inj h2
    have e5 : cells = c' := mkRow_inj h4
    have e6 : e2 = ei := by
      simp only [mkRow, AB.row.injEq] at h4
      exact h4.2.2.1
    exact ⟨c2, by rw [hget_hset, if_pos rfl, e6], by rw [hl, e5, h3]⟩
  · exact ⟨c', by rw [hget_hset, if_neg e]; exact h2, h3⟩
theorem Chg.set {x : List AV} {F b o e n : Nat} {c : Option Nat} {a : AV} {h h1 : Heap} {ab : AB} (k : Chg x F h h1) (ha : a ∈ x) (e1 : a = .slice b o e n c) (hp : 0 < n) : Chg x F h (hset h1 b ab) := fun i hi ho => by
  rw [hget_hset, if_neg (ho a ha b o e n c e1 hp)]; exact k i hi ho
theorem lsti_at {A B : Nat} {h : Heap} {ks : List CK} {a : AV} {L : List (List AV)} (hl : LstI A B h ks a L) {i : Nat} (hi : i < L.length) : ∃ b o eo cap, a = .slice b o eo L.length cap ∧ ky A 0 ≤ b ∧ b < ky B 0 ∧ True ∧ True := by
  obtain ⟨b, o, eo, cap, e, h1, h2, _⟩ := hl.at hi
  exact ⟨b, o, eo, cap, e, h1, h2, trivial, trivial⟩
theorem rdAB_some {cells v : List AV} {e2 o n : Nat} (h : rdAB (some (mkRow cells e2)) o n = some v) : o + n ≤ cells.length := by
  rw [rdAB_row] at h
  by_cases hc : o + n ≤ cells.length
  · exact hc
  · rw [if_neg hc] at h; cases h
theorem wrx_len {A B : Nat} {h : Heap} {ks : List CK} {x : List AV} {a : AV} {L : List (List AV)} (wx : WrX h x) (ha : a ∈ x) (hl : LstI A B h ks a L) {b o eo : Nat} {cap : Option Nat} (e : a = .slice b o eo L.length cap) (hp : 0 < L.length) : ∃ cells e2, hget h b = some (mkRow cells e2) ∧ o + L.length * ks.length ≤ cells.length := by
  subst e
  obtain ⟨cells, e2, hg⟩ := wx b o eo L.length cap ha hp
  refine ⟨cells, e2, hg, ?_⟩
  rcases hl.1.2.2 with ⟨e | e, _⟩ | ⟨b', o', eo', cap', e, hr⟩
  · cases e
  · cases e
  · cases e
    have := hr hp
    rw [hg] at this
    exact rdAB_some this
theorem fill4_0 (a b c d v : AV) : fillA [a, b, c, d] 0 [v] = [v, b, c, d] := rfl
theorem b41 : (Nat.beq 1 1 && Nat.ble 1 4) = true := rfl
theorem fill3_0 (a b c v : AV) : fillA [a, b, c] 0 [v] = [v, b, c] := rfl
theorem b31 : (Nat.beq 1 1 && Nat.ble 1 3) = true := rfl
set_option maxHeartbeats 16000000 in
theorem spoilA (h : Heap) (F A B : Nat) (p : PV) (x : List AV) (hx : PasI A B h x p) (wx : WrX h x) (hBF : B ≤ F) (hn : smallP 100000 p) : SndQ Tryz.prog [] 13 [.agg x] ⟨h, F⟩ (fun o => ∃ v h', o = .val v ⟨h', F + 1⟩ ∧ Chg x F h h') := by
  obtain ⟨nA, nR, nW, nI⟩ := hn
  refine sndQ_wf fun hw => ?_
  have mxl : maxLen = 9223372036854775807 := by decide
  obtain ⟨ok, a, r, w, i, rfl, hA0, hR0, hW0, hI0⟩ := hx
  have iA := isCell_L hA0.p
  have iR := isCell_L hR0.p
  have iW := isCell_L hW0.p
  have iI := isCell_L hI0.p
  have lI := fun (h2 : Heap) => rLen1_L (h2 := h2) Tryz.underlying32 hI0.p
  have lR := fun (h2 : Heap) => rLen1_L (h2 := h2) Tryz.underlying27 hR0.p
  have lW := fun (h2 : Heap) => rLen1_L (h2 := h2) Tryz.underlying27 hW0.p
  have lA := fun (h2 : Heap) => rLen1_L (h2 := h2) Tryz.underlying24 hA0.p
  have eR : (tL p.rd).length = p.rd.length := tL_len _
  have eW : (tL p.wr).length = p.wr.length := tL_len _
  have kr0 : KeepR F h (hset h (ky F 0) (mkRow [.int .i64 p.cl, .int .u64 p.tok, .str p.nm, a, .int .i64 p.how, r, w, i] 0)) := fun b cells e2 hb hg => ⟨cells, by rw [hget_hset, if_neg (by have := ky_le F 0; omega)]; exact hg, rfl⟩
  have ch0 : Chg [.int .i64 p.cl, .int .u64 p.tok, .str p.nm, a, .int .i64 p.how, r, w, i] F h (hset h (ky F 0) (mkRow [.int .i64 p.cl, .int .u64 p.tok, .str p.nm, a, .int .i64 p.how, r, w, i] 0)) := fun b hb _ => by rw [hget_hset, if_neg (by have := ky_le F 0; omega)]
  refine sndQ_body (K := (KR C0)) kr_ok mixed noNum (m := 200000) Tryz.func13 ?_
  generalize hQ : retQ _ _ _ _ _ _ = Q0
  refine body_go (c := Tryz.f13.body.getD .skip) (n := 64) rfl rfl (by simp only [↓reduceIte, T.setList, T.set_e] <;> rfl) ?_
  simp only [Tryz.f13, Option.getD_some]
  repeat' (first | refine st ?_ | ((with_reducible (first | apply r_any | apply r_cond)); focus (simp only [↓reduceIte, clsOf, newBlk, allocOp, Fr.ev, ofV, ofA, ofS, nVar, AV.cells, rowOf_mk, put_mk, upd_mk, keyOf_mk, pureOp, Nat.add_zero, Nat.reduceLT, Nat.reduceEqDiff, Nat.reduceSub, stepOp, stV_mk, stB_mk, T.get_n, T.set_n, T.set_e, Nat.reduceDiv, Nat.reduceMod, stepAny, wantedA_none] <;> rfl)))
  refine r_loop (I := fun nn fr s1 => ∃ lc tt h1 j, fr = ⟨F, lc, 64, tt, [], .no⟩ ∧ s1 = ⟨h1, F + 1⟩ ∧ j ≤ p.it.length ∧ nn = p.it.length - j ∧ lc + nn * 1000 ≤ 100000000000000000000000000 ∧ KeepR F h h1 ∧ Chg [.int .i64 p.cl, .int .u64 p.tok, .str p.nm, a, .int .i64 p.how, r, w, i] F h h1 ∧ hget h1 (ky F 0) = some (mkRow [.int .i64 p.cl, .int .u64 p.tok, .str p.nm, a, .int .i64 p.how, r, w, i] 0) ∧ tt.get 1 = some (.ptr (ky F 0) 0) ∧ tt.get 2 = some (.int .i64 (j : Int))) (n := p.it.length) ?_ ?_ ?_
  · omega
  · exact ⟨_, _, _, 0, rfl, rfl, Nat.zero_le _, (Nat.sub_zero _).symm, by omega, kr0, ch0, by rw [hget_hset, if_pos rfl], sd8, sd8⟩
  rintro nn fr s1 ⟨lc0, tt0, h1, j, rfl, rfl, hj, rfl, hlc0, hkr, hch, hb, u1, uv⟩
  by_cases hjl : j < p.it.length
  · obtain ⟨b, o, eo, cap, el, hA, hB, _, _⟩ := lsti_at hI0 hjl
    obtain ⟨cells, e2, hc0, hle0⟩ := wrx_len wx (by simp) hI0 el (by omega)
    obtain ⟨cells', hc1, hlen⟩ := hkr b cells e2 (Nat.lt_of_lt_of_le hB (ky_mono hBF)) hc0
    have hle : (o + j * 4 + 4 ≤ cells'.length) = True := eq_true (by rw [hlen]; exact Nat.le_trans (by rw [Nat.add_assoc, ← Nat.succ_mul]; exact Nat.add_le_add_left (Nat.mul_le_mul_right _ hjl) _) hle0)
    have hbF : b < ky F 0 := Nat.lt_of_lt_of_le hB (ky_mono hBF)
    have kk := fun (a : Nat) => ky_old (a := a) hbF
    have kkr := fun (a : Nat) => ky_oldr (a := a) hbF
    have ad := intOp_add (P := Tryz.prog) (t := 3) (inR_succ hjl (by omega : p.it.length ≤ maxLen))
    have pI := pIA_s (P := Tryz.prog) (id := b) (off := o) (eo := eo) (cap := cap) Tryz.underlying32 sz66 hjl
    repeat' (first | refine st ?_ | ((with_reducible (first | apply r_any | apply r_cond)); focus (simp only [↓reduceIte, clsOf, clsCall, Fr.ev, evParts, ofV, ofA, ofS, AV.cells, put_mk, put_none, pureOp, readOp, pFA, pFA1, pFA2, rLd, rdAB_row, oneCell_one, someAgg_s, pBin, binA, intOp_lss, List.length_cons, List.length_nil, List.getElem?_cons_zero, List.getElem?_cons_succ, List.drop_zero, List.drop_succ_cons, List.take_succ_cons, List.take_zero, Nat.zero_add, Nat.reduceAdd, Nat.reduceLT, Nat.reduceLeDiff, Nat.reduceEqDiff, and_self, Nat.add_eq, loadA_w, loadW_s, aSt_w, stOut_s, wrAB_row, ovr, allCell, ic_i, ic_s, actOp, pBuild, pBuild2, fieldsOk, buildParts, binA, stepOp, stHeavy, stV_mk, stO_mk, sz9, sz32, ag32, Tryz.underlying32, Tryz.underlying34, sz64, sz66, zr66, Tryz.underlying66, stepAny, wantedA_none, rCall, rLen, rLen1_sl, lenA, Tget_set, u1, uv, hb, lt_t hjl, el, pI, hc1, hle, ad, listC_eq, fill4_0, b41] <;> rfl)))
    exact r_rq_n (k := p.it.length - (j + 1)) (by omega) ⟨_, _, _, j + 1, rfl, rfl, by omega, rfl, by omega, hkr.set hbF hc1 (by first | exact ovr_length _ _ _ | simp), hch.set (a := i) (by simp) el (by omega), by simp only [hget_hset_ite, kkr, ↓reduceIte]; exact hb, sd8, sd8⟩
  repeat' (first | refine st ?_ | ((with_reducible (first | apply r_any | apply r_cond)); focus (simp only [↓reduceIte, clsOf, clsCall, Fr.ev, ofV, ofA, ofS, put_mk, pureOp, readOp, pFA, pFA1, pFA2, rLd, rdAB_row, oneCell_one, pBin, binA, intOp_lss, List.length_cons, List.length_nil, List.getElem?_cons_zero, List.getElem?_cons_succ, List.drop_zero, List.drop_succ_cons, List.take_succ_cons, List.take_zero, Nat.zero_add, Nat.reduceAdd, Nat.reduceLT, Nat.reduceLeDiff, Nat.reduceEqDiff, Nat.add_eq, loadA_w, loadW_s, binA, stepOp, stV_mk, sz32, ag32, Tryz.underlying34, stepAny, wantedA_none, rCall, rLen, Tget_set, u1, uv, hb, lI, lt_f hjl] <;> rfl)))
  refine r_loop (I := fun nn fr s1 => ∃ lc tt h1 j, fr = ⟨F, lc, 64, tt, [], .no⟩ ∧ s1 = ⟨h1, F + 1⟩ ∧ j ≤ (tL p.rd).length ∧ nn = (tL p.rd).length - j ∧ lc + nn * 1000 ≤ lc0 + 1000000000000 ∧ KeepR F h h1 ∧ Chg [.int .i64 p.cl, .int .u64 p.tok, .str p.nm, a, .int .i64 p.how, r, w, i] F h h1 ∧ hget h1 (ky F 0) = some (mkRow [.int .i64 p.cl, .int .u64 p.tok, .str p.nm, a, .int .i64 p.how, r, w, i] 0) ∧ tt.get 1 = some (.ptr (ky F 0) 0) ∧ tt.get 3 = some (.int .i64 (j : Int))) (n := (tL p.rd).length) ?_ ?_ ?_
  · omega
  · exact ⟨_, _, _, 0, rfl, rfl, Nat.zero_le _, (Nat.sub_zero _).symm, by omega, hkr, hch, hb, sd8, sd8⟩
  rintro nn fr s1 ⟨lc1, tt1, h1, j, rfl, rfl, hj, rfl, hlc1, hkr, hch, hb, u1, uv⟩
  by_cases hjl : j < (tL p.rd).length
  · obtain ⟨b, o, eo, cap, el, hA, hB, _, _⟩ := lsti_at hR0 hjl
    obtain ⟨cells, e2, hc0, hle0⟩ := wrx_len wx (by simp) hR0 el (by omega)
    obtain ⟨cells', hc1, hlen⟩ := hkr b cells e2 (Nat.lt_of_lt_of_le hB (ky_mono hBF)) hc0
    have hle : (o + j * 1 + 1 ≤ cells'.length) = True := eq_true (by rw [hlen]; exact Nat.le_trans (by rw [Nat.add_assoc, ← Nat.succ_mul]; exact Nat.add_le_add_left (Nat.mul_le_mul_right _ hjl) _) hle0)
    have hbF : b < ky F 0 := Nat.lt_of_lt_of_le hB (ky_mono hBF)
    have kk := fun (a : Nat) => ky_old (a := a) hbF
    have kkr := fun (a : Nat) => ky_oldr (a := a) hbF
    have ad := intOp_add (P := Tryz.prog) (t := 3) (inR_succ hjl (by omega : (tL p.rd).length ≤ maxLen))
    have pI := pIA_s (P := Tryz.prog) (id := b) (off := o) (eo := eo) (cap := cap) Tryz.underlying27 sz9 hjl
    repeat' (first | refine st ?_ | ((with_reducible (first | apply r_any | apply r_cond)); focus (simp only [↓reduceIte, clsOf, clsCall, Fr.ev, ofV, ofA, ofS, AV.cells, put_mk, put_none, pureOp, readOp, pFA, pFA1, pFA2, rLd, rdAB_row, oneCell_one, pBin, binA, intOp_lss, List.length_cons, List.length_nil, List.getElem?_cons_zero, List.getElem?_cons_succ, List.drop_zero, List.drop_succ_cons, List.take_succ_cons, List.take_zero, Nat.zero_add, Nat.add_zero, Nat.reduceAdd, Nat.reduceLT, Nat.reduceLeDiff, Nat.reduceEqDiff, and_self, Nat.add_eq, loadA_w, loadW_s, aSt_w, stOut_s, wrAB_row, ovr, allCell, ic_s, actOp, binA, stepOp, stHeavy, stV_mk, stO_mk, sz9, sz27, ag27, Tryz.underlying27, sz29, Tryz.underlying29, sz31, Tryz.underlying31, Tryz.underlying34, stepAny, wantedA_none, rCall, rLen, rLen1_sl, lenA, Tget_set, u1, uv, hb, lt_t hjl, el, pI, hc1, hle, ad] <;> rfl)))
    exact r_rq_n (k := (tL p.rd).length - (j + 1)) (by omega) ⟨_, _, _, j + 1, rfl, rfl, by omega, rfl, by omega, hkr.set hbF hc1 (by first | exact ovr_length _ _ _ | simp), hch.set (a := r) (by simp) el (by omega), by simp only [hget_hset_ite, kkr, ↓reduceIte]; exact hb, sd8, sd8⟩
  repeat' (first | refine st ?_ | ((with_reducible (first | apply r_any | apply r_cond)); focus (simp only [↓reduceIte, clsOf, clsCall, Fr.ev, ofV, ofA, ofS, put_mk, pureOp, readOp, pFA, pFA1, pFA2, rLd, rdAB_row, oneCell_one, pBin, binA, intOp_lss, List.length_cons, List.length_nil, List.getElem?_cons_zero, List.getElem?_cons_succ, List.drop_zero, List.drop_succ_cons, List.take_succ_cons, List.take_zero, Nat.zero_add, Nat.add_zero, Nat.reduceAdd, Nat.reduceLT, Nat.reduceLeDiff, Nat.reduceEqDiff, Nat.add_eq, loadA_w, loadW_s, binA, stepOp, stV_mk, sz27, ag27, sz29, Tryz.underlying29, sz31, Tryz.underlying31, Tryz.underlying34, stepAny, wantedA_none, rCall, rLen, Tget_set, u1, uv, hb, lR, lt_f hjl] <;> rfl)))
  refine r_loop (I := fun nn fr s1 => ∃ lc tt h1 j, fr = ⟨F, lc, 64, tt, [], .no⟩ ∧ s1 = ⟨h1, F + 1⟩ ∧ j ≤ (tL p.wr).length ∧ nn = (tL p.wr).length - j ∧ lc + nn * 1000 ≤ lc1 + 1000000000000 ∧ KeepR F h h1 ∧ Chg [.int .i64 p.cl, .int .u64 p.tok, .str p.nm, a, .int .i64 p.how, r, w, i] F h h1 ∧ hget h1 (ky F 0) = some (mkRow [.int .i64 p.cl, .int .u64 p.tok, .str p.nm, a, .int .i64 p.how, r, w, i] 0) ∧ tt.get 1 = some (.ptr (ky F 0) 0) ∧ tt.get 4 = some (.int .i64 (j : Int))) (n := (tL p.wr).length) ?_ ?_ ?_
  · omega
  · exact ⟨_, _, _, 0, rfl, rfl, Nat.zero_le _, (Nat.sub_zero _).symm, by omega, hkr, hch, hb, sd8, sd8⟩
  rintro nn fr s1 ⟨lc2, tt2, h1, j, rfl, rfl, hj, rfl, hlc2, hkr, hch, hb, u1, uv⟩
  by_cases hjl : j < (tL p.wr).length
  · obtain ⟨b, o, eo, cap, el, hA, hB, _, _⟩ := lsti_at hW0 hjl
    obtain ⟨cells, e2, hc0, hle0⟩ := wrx_len wx (by simp) hW0 el (by omega)
    obtain ⟨cells', hc1, hlen⟩ := hkr b cells e2 (Nat.lt_of_lt_of_le hB (ky_mono hBF)) hc0
    have hle : (o + j * 1 + 1 ≤ cells'.length) = True := eq_true (by rw [hlen]; exact Nat.le_trans (by rw [Nat.add_assoc, ← Nat.succ_mul]; exact Nat.add_le_add_left (Nat.mul_le_mul_right _ hjl) _) hle0)
    have hbF : b < ky F 0 := Nat.lt_of_lt_of_le hB (ky_mono hBF)
    have kk := fun (a : Nat) => ky_old (a := a) hbF
    have kkr := fun (a : Nat) => ky_oldr (a := a) hbF
    have ad := intOp_add (P := Tryz.prog) (t := 3) (inR_succ hjl (by omega : (tL p.wr).length ≤ maxLen))
    have pI := pIA_s (P := Tryz.prog) (id := b) (off := o) (eo := eo) (cap := cap) Tryz.underlying27 sz9 hjl
    repeat' (first | refine st ?_ | ((with_reducible (first | apply r_any | apply r_cond)); focus (simp only [↓reduceIte, clsOf, clsCall, Fr.ev, ofV, ofA, ofS, AV.cells, put_mk, put_none, pureOp, readOp, pFA, pFA1, pFA2, rLd, rdAB_row, oneCell_one, pBin, binA, intOp_lss, List.length_cons, List.length_nil, List.getElem?_cons_zero, List.getElem?_cons_succ, List.drop_zero, List.drop_succ_cons, List.take_succ_cons, List.take_zero, Nat.zero_add, Nat.add_zero, Nat.reduceAdd, Nat.reduceLT, Nat.reduceLeDiff, Nat.reduceEqDiff, and_self, Nat.add_eq, loadA_w, loadW_s, aSt_w, stOut_s, wrAB_row, ovr, allCell, ic_s, actOp, binA, stepOp, stHeavy, stV_mk, stO_mk, sz9, sz27, ag27, Tryz.underlying27, sz29, Tryz.underlying29, sz31, Tryz.underlying31, Tryz.underlying34, stepAny, wantedA_none, rCall, rLen, rLen1_sl, lenA, Tget_set, u1, uv, hb, lt_t hjl, el, pI, hc1, hle, ad] <;> rfl)))
    exact r_rq_n (k := (tL p.wr).length - (j + 1)) (by omega) ⟨_, _, _, j + 1, rfl, rfl, by omega, rfl, by omega, hkr.set hbF hc1 (by first | exact ovr_length _ _ _ | simp), hch.set (a := w) (by simp) el (by omega), by simp only [hget_hset_ite, kkr, ↓reduceIte]; exact hb, sd8, sd8⟩
  repeat' (first | refine st ?_ | ((with_reducible (first | apply r_any | apply r_cond)); focus (simp only [↓reduceIte, clsOf, clsCall, Fr.ev, ofV, ofA, ofS, put_mk, pureOp, readOp, pFA, pFA1, pFA2, rLd, rdAB_row, oneCell_one, pBin, binA, intOp_lss, List.length_cons, List.length_nil, List.getElem?_cons_zero, List.getElem?_cons_succ, List.drop_zero, List.drop_succ_cons, List.take_succ_cons, List.take_zero, Nat.zero_add, Nat.add_zero, Nat.reduceAdd, Nat.reduceLT, Nat.reduceLeDiff, Nat.reduceEqDiff, Nat.add_eq, loadA_w, loadW_s, binA, stepOp, stV_mk, sz27, ag27, sz29, Tryz.underlying29, sz31, Tryz.underlying31, Tryz.underlying34, stepAny, wantedA_none, rCall, rLen, Tget_set, u1, uv, hb, lW, lt_f hjl] <;> rfl)))
  refine r_loop (I := fun nn fr s1 => ∃ lc tt h1 j, fr = ⟨F, lc, 64, tt, [], .no⟩ ∧ s1 = ⟨h1, F + 1⟩ ∧ j ≤ p.args.length ∧ nn = p.args.length - j ∧ lc + nn * 1000 ≤ lc2 + 1000000000000 ∧ KeepR F h h1 ∧ Chg [.int .i64 p.cl, .int .u64 p.tok, .str p.nm, a, .int .i64 p.how, r, w, i] F h h1 ∧ hget h1 (ky F 0) = some (mkRow [.int .i64 p.cl, .int .u64 p.tok, .str p.nm, a, .int .i64 p.how, r, w, i] 0) ∧ tt.get 1 = some (.ptr (ky F 0) 0) ∧ tt.get 5 = some (.int .i64 (j : Int))) (n := p.args.length) ?_ ?_ ?_
  · omega
  · exact ⟨_, _, _, 0, rfl, rfl, Nat.zero_le _, (Nat.sub_zero _).symm, by omega, hkr, hch, hb, sd8, sd8⟩
  rintro nn fr s1 ⟨lc3, tt3, h1, j, rfl, rfl, hj, rfl, hlc3, hkr, hch, hb, u1, uv⟩
  by_cases hjl : j < p.args.length
  · obtain ⟨b, o, eo, cap, el, hA, hB, _, _⟩ := lsti_at hA0 hjl
    obtain ⟨cells, e2, hc0, hle0⟩ := wrx_len wx (by simp) hA0 el (by omega)
    obtain ⟨cells', hc1, hlen⟩ := hkr b cells e2 (Nat.lt_of_lt_of_le hB (ky_mono hBF)) hc0
    have hle : (o + j * 3 + 3 ≤ cells'.length) = True := eq_true (by rw [hlen]; exact Nat.le_trans (by rw [Nat.add_assoc, ← Nat.succ_mul]; exact Nat.add_le_add_left (Nat.mul_le_mul_right _ hjl) _) hle0)
    have hbF : b < ky F 0 := Nat.lt_of_lt_of_le hB (ky_mono hBF)
    have kk := fun (a : Nat) => ky_old (a := a) hbF
    have kkr := fun (a : Nat) => ky_oldr (a := a) hbF
    have ad := intOp_add (P := Tryz.prog) (t := 3) (inR_succ hjl (by omega : p.args.length ≤ maxLen))
    have pI := pIA_s (P := Tryz.prog) (id := b) (off := o) (eo := eo) (cap := cap) Tryz.underlying24 sz64 hjl
    repeat' (first | refine st ?_ | ((with_reducible (first | apply r_any | apply r_cond)); focus (simp only [↓reduceIte, clsOf, clsCall, Fr.ev, evParts, ofV, ofA, ofS, AV.cells, put_mk, put_none, pureOp, readOp, pFA, pFA1, pFA2, rLd, rdAB_row, oneCell_one, someAgg_s, pBin, binA, intOp_lss, List.length_cons, List.length_nil, List.getElem?_cons_zero, List.getElem?_cons_succ, List.drop_zero, List.drop_succ_cons, List.take_succ_cons, List.take_zero, Nat.zero_add, Nat.add_zero, Nat.reduceAdd, Nat.reduceLT, Nat.reduceLeDiff, Nat.reduceEqDiff, and_self, Nat.add_eq, loadA_w, loadW_s, aSt_w, stOut_s, wrAB_row, ovr, allCell, ic_i, ic_s, actOp, pBuild, pBuild2, fieldsOk, buildParts, binA, stepOp, stHeavy, stV_mk, stO_mk, sz2, sz3, sz9, sz24, ag24, Tryz.underlying24, sz26, Tryz.underlying26, sz31, Tryz.underlying31, Tryz.underlying34, sz64, zr64, Tryz.underlying64, stepAny, wantedA_none, rCall, rLen, rLen1_sl, lenA, Tget_set, u1, uv, hb, lt_t hjl, el, pI, hc1, hle, ad, listC_eq, fill3_0, b31] <;> rfl)))
    exact r_rq_n (k := p.args.length - (j + 1)) (by omega) ⟨_, _, _, j + 1, rfl, rfl, by omega, rfl, by omega, hkr.set hbF hc1 (by first | exact ovr_length _ _ _ | simp), hch.set (a := a) (by simp) el (by omega), by simp only [hget_hset_ite, kkr, ↓reduceIte]; exact hb, sd8, sd8⟩
  repeat' (first | refine st ?_ | ((with_reducible (first | apply r_any | apply r_cond)); focus (simp only [↓reduceIte, clsOf, clsCall, Fr.ev, put_mk, pureOp, readOp, pFA, pFA1, pFA2, rLd, rdAB_row, oneCell_one, pBin, binA, intOp_lss, List.length_cons, List.length_nil, List.getElem?_cons_zero, List.getElem?_cons_succ, List.drop_zero, List.drop_succ_cons, List.take_succ_cons, List.take_zero, Nat.zero_add, Nat.add_zero, Nat.reduceAdd, Nat.reduceLT, Nat.reduceLeDiff, Nat.reduceEqDiff, Nat.add_eq, loadA_w, loadW_s, binA, stepOp, stV_mk, sz24, ag24, sz26, Tryz.underlying26, sz31, Tryz.underlying31, Tryz.underlying34, stepAny, wantedA_none, rCall, rLen, Tget_set, u1, uv, hb, lA, lt_f hjl] <;> rfl)))
  subst hQ
  refine ret_back_n (by simp only [Tryz.results13, resultOf, resultsA, List.toList_toArray] <;> rfl) ?_
  exact ⟨_, _, rfl, hch⟩

set_option maxHeartbeats 8000000 in
theorem reqA (h : Heap) (F : Nat) (c t : Int) (n : Tx) (a : AV) (V : List (List AV)) (hA : LstP h ksV a V) (hV : V.length ≤ 100000) : SndQ Tryz.prog [] 15 [.agg [.int .i64 c, .int .u64 t, .str n, a]] ⟨h, F⟩ (fun o => ∃ a' h', o = .val (.agg [.int .i64 c, .int .u64 t, .str n, a']) ⟨h', F + 1 + 1⟩ ∧ LstI (F + 1) (F + 1 + 1) h' ksV a' V ∧ Low F h h' ∧ SameH h h') := by
  refine sndQ_wf fun hw => ?_
  have iA := isCell_L hA
  have L1 : Low F h (hset (hset h (ky F 0) (mkRow [.int .i64 c, .int .u64 t, .str n, a] 0)) (ky F 1) (mkRow [.int .i64 0, .int .u64 0, .str [], .nils] 0)) := ((Low.refl F h).set (Nat.le_refl F)).set (Nat.le_refl F)
  have S1 := L1.same hw
  have hN : LstP (hset (hset h (ky F 0) (mkRow [.int .i64 c, .int .u64 t, .str n, a] 0)) (ky F 1) (mkRow [.int .i64 0, .int .u64 0, .str [], .nils] 0)) ksT .nils (tL []) := ⟨by simp [tL], by simp [tL], .inl ⟨.inl rfl, rfl⟩⟩
  refine sndQ_body (K := (KR SC)) kr_ok mixed noNum (m := 0) Tryz.func15 ?_
  generalize hQ : retQ _ _ _ _ _ _ = Q0
  refine body_go (c := Tryz.f15.body.getD .skip) (n := 7) rfl rfl (by simp only [↓reduceIte, T.setList, T.set_e] <;> rfl) ?_
  simp only [Tryz.f15, Option.getD_some]
  repeat' (first | refine st ?_ | ((with_reducible (first | apply r_any | apply r_cond)); focus (simp only [↓reduceIte, clsOf, clsCall, newBlk, allocOp, Fr.ev, evs, evParts, nVar, AV.cells, rowOf_mk, put_mk, upd_mk, keyOf_mk, ky_inj, pureOp, readOp, rLd, rdAB_row, someAgg_s, hget_same, hget_hset_ite, List.length_cons, List.length_nil, List.getElem?_cons_zero, List.drop_zero, List.take_succ_cons, List.take_zero, Nat.zero_add, Nat.add_zero, Nat.reduceAdd, Nat.reduceLT, Nat.reduceLeDiff, Nat.reduceEqDiff, Nat.reduceSub, loadA_w, loadW_a, callTo_s, heavyCall, target, List.nil_append, List.append_nil, pBuild, pBuild2, fieldsOk, buildParts, stepOp, stHeavy, stV_mk, stB_mk, T.get_n, T.set_n, T.set_e, Nat.reduceDiv, Nat.reduceMod, sz3, sz26, ag26, zr26, tg26, sz29, zr31, Tryz.underlying31, stepAny, wantedA_none] <;> rfl)))
  refine r_callC (S := SC) (f := 28) (by first | rfl | (simp only [wantedA_none, Tget_set])) (by simp only [callOuts, callTo_s, target, evs, Fr.ev, T.get_n, Nat.reduceEqDiff, Nat.reduceDiv, Nat.reduceMod, Nat.reduceSub, ↓reduceIte, List.nil_append, List.append_nil]; exact kc_miss rfl) ?_ ?_
  · exact planQ (hA.same S1) hN hN hV (by simp) (by simp)
  intro oo ho
  obtain ⟨a2, r9, w9, h5, rfl, hA5, _, _, low5, hs5, _⟩ := ho V [] [] (hA.same S1) hN hN hV (by simp) (by simp)
  have hA5 : LstI (F + 1) (F + 1 + 1) h5 ksV a2 V := hA5
  have l5 : Low (F + 1) (hset (hset h (ky F 0) (mkRow [.int .i64 c, .int .u64 t, .str n, a] 0)) (ky F 1) (mkRow [.int .i64 0, .int .u64 0, .str [], .nils] 0)) h5 := low5
  have b1 : hget h5 (ky F 1) = some (mkRow [.int .i64 0, .int .u64 0, .str [], .nils] 0) := by rw [Low.own (F := F) (G := F + 1) l5 (by omega) (by decide), hget_hset, if_pos rfl]
  have iA2 := isCell_L hA5.p
  refine ⟨_, by simp only [put_mk, Nat.reduceLT, ↓reduceIte] <;> rfl, ?_⟩
  repeat' (first | refine st ?_ | ((with_reducible (first | apply r_any | apply r_cond)); focus (simp only [↓reduceIte, clsOf, Fr.ev, AV.cells, put_mk, put_none, pureOp, List.length_cons, List.length_nil, List.getElem?_cons_zero, List.drop_zero, List.take_succ_cons, List.take_zero, Nat.zero_add, Nat.reduceAdd, Nat.reduceLT, Nat.reduceLeDiff, Nat.reduceEqDiff, Nat.reduceSub, and_self, aSt_w, stOut_s, wrAB_row, ovr, List.set_cons_zero, List.set_cons_succ, allCell, ic_i, ic_s, actOp, pF, pF1, partA, stepOp, stHeavy, stV_mk, stO_mk, T.get_n, T.set_n, T.set_e, Nat.reduceDiv, Nat.reduceMod, sz26, ag26, Tryz.underlying31, stepAny, wantedA_none, iA2, b1] <;> rfl)))
  subst hQ
  refine ret_back (by simp only [Tryz.results15, resultOf, resultsA, resultA, List.toList_toArray, Fr.ev, T.get_n, Nat.reduceDiv, Nat.reduceMod, Nat.reduceSub, Nat.reduceEqDiff, ↓reduceIte, loadA_w, hget_same] <;> rfl) ?_
  have L5 : Low F h h5 := L1.trans (l5.down (by omega))
  exact ⟨_, _, rfl, hA5.move ((EqI.refl _ _ h5).set (.inl (by omega)) (by decide)), L5.set (Nat.le_refl F), (L5.set (Nat.le_refl F)).same hw⟩

end Go.Proofs.YtmnhaoadhkdinaaGreatDoor

namespace Go.Proofs.YtmnhaoadhkdinaaGreatDoor
open Go Go.Ai
set_option maxRecDepth 100000
theorem run5 : saysTrue (call Tryz.prog [] X2 2000 200 5 [] ⟨.e, 0⟩) = true := by kernel_rfl
theorem body5 : ∃ c, Tryz.f5.body = some c := Option.isSome_iff_exists.1 (by kernel_rfl)
theorem run4 : saysTrue (call Tryz.prog [] X2 2000 200 4 [] ⟨.e, 0⟩) = true := by kernel_rfl
theorem body4 : ∃ c, Tryz.f4.body = some c := Option.isSome_iff_exists.1 (by kernel_rfl)
end Go.Proofs.YtmnhaoadhkdinaaGreatDoor

namespace Go.Proofs.YtmnhaoadhkdinaaGreatDoor
open Go Go.Ai
set_option maxRecDepth 100000

/-- what is said of the law's calls -/
def SL : FuncId → List AV → St → Out → Prop
  | 9, [.agg x], s, o => SC 9 [.agg x] s o
  | 6, [.int .i64 m], s, o => (1 ≤ m ∧ m ≤ 1024 ∧ o = .val (.tup [.ptr (ky s.fc 10) 0, .int .i64 0]) ⟨hset s.h (ky s.fc 10) (mkRow [.int .i64 m, .nils, .int .i64 0, .int .i64 0] 0), s.fc + 1⟩) ∨ (¬ (1 ≤ m ∧ m ≤ 1024) ∧ o = .val (.tup [.nilp, .int .i64 2]) ⟨s.h, s.fc + 1⟩)
  | 7, [.int .i64 m], s, o => (1 ≤ m ∧ m ≤ 1024 ∧ o = .val (.tup [.ptr (ky s.fc 10) 0, .int .i64 0]) ⟨hset s.h (ky s.fc 10) (mkRow [.int .i64 m, .nils, .int .i64 0, .int .i64 0] 0), s.fc + 1⟩) ∨ (¬ (1 ≤ m ∧ m ≤ 1024) ∧ o = .val (.tup [.nilp, .int .i64 2]) ⟨s.h, s.fc + 1⟩)
  | 10, [.ptr kc 0, .agg x0], s, o => ∀ (most : Nat) l y n X L p, hget s.h kc = some (mkRow [.int .i64 (most : Int), l, y, n] 0) → (∃ o k, LS o s.h k 8 l X) → (∃ Q G, Kept Q G s.h X L) → PasP s.h x0 p → ∃ l' h' k' x1 A F', o = .val (.bool (dec (fndP p.nm p.args L ≠ none))) ⟨h', F'⟩ ∧ s.fc + 1 ≤ A ∧ A + 2 ≤ F' ∧ hget h' kc = some (mkRow [.int .i64 (most : Int), l', y, n] 0) ∧ LS true h' k' 8 l' (putX most X (fndP p.nm p.args L) x1) ∧ (atKey l k' ∨ (ky s.fc 0 ≤ k' ∧ k' < ky F' 0 ∧ OutK k' (A + 1) (A + 1 + 1 + 1 + 1 + 1))) ∧ PasI (A + 1) (A + 1 + 1 + 1 + 1 + 1) h' x1 p ∧ A + 1 + 1 + 1 + 1 + 1 ≤ F' ∧ ∀ i, i < ky s.fc 0 → i ≠ kc → keyNe l i → hget h' i = hget s.h i
  | 11, [.ptr kc 0, .agg x0], s, o => ∀ (most : Nat) l y n X L p, hget s.h kc = some (mkRow [.int .i64 (most : Int), l, y, n] 0) → (∃ o k, LS o s.h k 8 l X) → (∃ Q G, Kept Q G s.h X L) → PasP s.h x0 p → ∃ l' h' k' x1 A F', o = .val (.bool (dec (fndP p.nm p.args L ≠ none))) ⟨h', F'⟩ ∧ s.fc + 1 ≤ A ∧ A + 2 ≤ F' ∧ hget h' kc = some (mkRow [.int .i64 (most : Int), l', y, n] 0) ∧ LS false h' k' 8 l' (putX most X (fndP p.nm p.args L) x1) ∧ (atKey l k' ∨ (ky s.fc 0 ≤ k' ∧ k' < ky F' 0 ∧ OutK k' (A) (A + 1 + 1))) ∧ PasI (A) (A + 1 + 1) h' x1 p ∧ A + 1 + 1 ≤ F' ∧ ∀ i, i < ky s.fc 0 → i ≠ kc → keyNe l i → hget h' i = hget s.h i
  | 14, [.ptr kc 0, .agg [.int .i64 c, .int .u64 t, .str n, a]], s, o => ∀ m l y z X L V, hget s.h kc = some (mkRow [m, l, .int .i64 y, .int .i64 z] 0) → (∃ o k, LS o s.h k 8 l X) → (∃ Q G, Kept Q G s.h X L) → LstP s.h ksV a V → ∃ x' h' F', o = .val (.tup [.agg x', .bool (dec (fndP n V L ≠ none))]) ⟨h', F'⟩ ∧ s.fc + 1 ≤ F' ∧ hget h' kc = some (mkRow [m, l, .int .i64 (y + if fndP n V L = none then 0 else 1), .int .i64 (z + if fndP n V L = none then 1 else 0)] 0) ∧ PasI (s.fc + 1) F' h' x' (getP c t n V L) ∧ LowK kc s.fc s.h h' ∧ WrX h' x'
  | 16, [.ptr kc 0, .agg [.int .i64 c, .int .u64 t, .str n, a]], s, o => ∀ m l y z X L V, hget s.h kc = some (mkRow [m, l, .int .i64 y, .int .i64 z] 0) → (∃ o k, LS o s.h k 8 l X) → (∃ Q G, Kept Q G s.h X L) → LstP s.h ksV a V → ∃ x' h' F', o = .val (.tup [.agg x', .bool (dec (fndP n V L ≠ none))]) ⟨h', F'⟩ ∧ s.fc + 1 ≤ F' ∧ hget h' kc = some (mkRow [m, l, .int .i64 (y + if fndP n V L = none then 0 else 1), .int .i64 (z + if fndP n V L = none then 1 else 0)] 0) ∧ PasI (s.fc + 1) F' h' x' (getP c t n V L) ∧ LowK kc s.fc s.h h' ∧ WrX h' x'
  | 17, [.ptr kc 0, w], s, o => ∀ m l y n X L U, hget s.h kc = some (mkRow [m, l, y, n] 0) → (∃ o k, LS o s.h k 8 l X) → (∃ Q G, Kept Q G s.h X L) → LstP s.h ksW w U → ∃ l' h', o = .val (.int .i64 ((L.length - (tchL (U.map keyI) L).length : Nat) : Int)) ⟨h', s.fc + 1 + 1⟩ ∧ hget h' kc = some (mkRow [m, l', y, n] 0) ∧ ((l' = .nils ∧ (kpZ (U.map keyI) X L L.length).map (·.1) = []) ∨ ∃ k', atKey l k' ∧ LS true h' k' 8 l' ((kpZ (U.map keyI) X L L.length).map (·.1))) ∧ ∀ i, i < ky s.fc 0 → i ≠ kc → keyNe l i → hget h' i = hget s.h i
  | 18, [.ptr kc 0, w], s, o => ∀ m l y n X L U, hget s.h kc = some (mkRow [m, l, y, n] 0) → (∃ o k, LS o s.h k 8 l X) → (∃ Q G, Kept Q G s.h X L) → LstP s.h ksW w U → ∃ l' h' F', o = .val (.int .i64 ((L.length - (tchL (U.map keyI) L).length : Nat) : Int)) ⟨h', F'⟩ ∧ s.fc + 1 ≤ F' ∧ hget h' kc = some (mkRow [m, l', y, n] 0) ∧ ((l' = l ∧ (kpZ (U.map keyI) X L L.length).map (·.1) = X) ∨ ∃ k', ky s.fc 0 ≤ k' ∧ k' < ky F' 0 ∧ LS false h' k' 8 l' ((kpZ (U.map keyI) X L L.length).map (·.1))) ∧ LowK kc s.fc s.h h'
  | 13, [.agg x], s, o => ∃ v h', o = .val v ⟨h', s.fc + 1⟩ ∧ Chg x s.fc s.h h'
  | 15, [.agg [c, t, n, a]], s, o => ∀ V, LstP s.h ksV a V → ∃ a' h', o = .val (.agg [c, t, n, a']) ⟨h', s.fc + 1 + 1⟩ ∧ LstI (s.fc + 1) (s.fc + 1 + 1) h' ksV a' V ∧ Low s.fc s.h h' ∧ SameH s.h h'
  | _, _, _, _ => True
theorem kept_uniq {o : Bool} {h : Heap} {k : Nat} {l : AV} {X : List (List AV)} {L L' : List PV} {Q Q' : Nat → Nat → Prop} {G G' : Nat} (g : LS o h k 8 l X) (hn : X.length ≤ maxLen) (kp : Kept Q G h X L) (kp' : Kept Q' G' h X L') : L = L' := by
  have hlX : LstP h ksP l X := g.lst kp.ok hn
  exact Option.some.inj ((pasO_eq hlX kp).symm.trans (pasO_eq hlX kp'))
section
variable {h : Heap} {F kc k A' B' most : Nat} {x0 : List AV} {p : PV} {l y n : AV} {Q : Nat → Nat → Prop} {G : Nat} {X : List (List AV)} {L : List PV}
theorem putAQ (hkc : kc < ky F 0) (hk : k < ky F 0) (hne : kc ≠ k) (hg : hget h kc = some (mkRow [.int .i64 (most : Int), l, y, n] 0)) (g : LS true h k 8 l X) (kp : Kept Q G h X L) (hG : G ≤ F) (hx : PasI A' B' h x0 p) (hxk : OutK k A' B') (hxc : OutK kc A' B') (hxB : B' ≤ F) (hn : smallP 100000 p) (hL : L.length ≤ most) (hm : most ≤ 1024) :
    SndQ Tryz.prog [] 10 [.ptr kc 0, .agg x0] ⟨h, F⟩ (SL 10 [.ptr kc 0, .agg x0] ⟨h, F⟩) :=
  (putA h F kc k A' B' most x0 p l y n Q G X L hkc hk hne hg g kp hG hx hxk hxc hxB hn hL hm).mono fun o ho => fun most' l' y' n' X' L' p' hg' ⟨o', k', g'⟩ ⟨Q', G', kp'⟩ hp' => by
    have e := mkRow_inj (Option.some.inj (hg.symm.trans hg'))
    simp only [List.cons.injEq, AV.int.injEq, true_and, and_true] at e
    obtain ⟨e1, rfl, rfl, rfl⟩ := e
    obtain rfl : most = most' := by omega
    obtain rfl := LS.uniq g g'
    obtain rfl := kept_uniq g (by rw [kp.1]; exact Nat.le_trans hL (Nat.le_trans hm (by decide))) kp kp'
    obtain rfl := (PasI.p hx).uniq hp'
    obtain ⟨l', h', k', x1, A, F', h1, h2, rfl, _, h4, h5, h6, h7, h8⟩ := ho
    exact ⟨l', h', k', x1, A, _, h1, h2, by omega, h4, h5, h6.imp (fun e => by rw [e.1]; exact e.2) (fun e => ⟨e.1, Nat.lt_of_lt_of_le e.2 (ky_mono (by omega)), .inl (Nat.lt_of_lt_of_le e.2 (ky_mono (by omega)))⟩), h7, Nat.le_refl _, h8⟩
theorem putBQ (hkc : kc < ky F 0) (hk : k < ky F 0) (hne : kc ≠ k) (hg : hget h kc = some (mkRow [.int .i64 (most : Int), l, y, n] 0)) (g : LS false h k 8 l X) (kp : Kept Q G h X L) (hG : G ≤ F) (hx : PasI A' B' h x0 p) (hxc : OutK kc A' B') (hxB : B' ≤ F) (hn : smallP 100000 p) (hL : L.length ≤ most) (hm : most ≤ 1024) :
    SndQ Tryz.prog [] 11 [.ptr kc 0, .agg x0] ⟨h, F⟩ (SL 11 [.ptr kc 0, .agg x0] ⟨h, F⟩) :=
  (putB h F kc k A' B' most x0 p l y n Q G X L hkc hk hne hg g kp hG hx hxc hxB hn hL hm).mono fun o ho => fun most' l' y' n' X' L' p' hg' ⟨o', k', g'⟩ ⟨Q', G', kp'⟩ hp' => by
    have e := mkRow_inj (Option.some.inj (hg.symm.trans hg'))
    simp only [List.cons.injEq, AV.int.injEq, true_and, and_true] at e
    obtain ⟨e1, rfl, rfl, rfl⟩ := e
    obtain rfl : most = most' := by omega
    obtain rfl := LS.uniq g g'
    obtain rfl := kept_uniq g (by rw [kp.1]; exact Nat.le_trans hL (Nat.le_trans hm (by decide))) kp kp'
    obtain rfl := (PasI.p hx).uniq hp'
    obtain ⟨l', h', k', x1, A, F', h1, h2, h3, _, h4, h5, h6, h7, h8⟩ := ho
    exact ⟨l', h', k', x1, A, F', h1, h2, h3, h4, h5, h6.imp (fun e => by rw [e.1]; exact e.2) id, h7, by omega, h8⟩
end
section
variable {h : Heap} {F kc k A' B' : Nat} {c t : Int} {n : Tx} {a m l : AV} {y z : Int} {V : List (List AV)} {Q : Nat → Nat → Prop} {G : Nat} {X : List (List AV)} {L : List PV}
theorem getAQ (hkc : kc < ky F 0) (hk : k < ky F 0) (hne : kc ≠ k) (hg : hget h kc = some (mkRow [m, l, .int .i64 y, .int .i64 z] 0)) (g : LS true h k 8 l X) (kp : Kept Q G h X L) (hG : G ≤ F) (hQk : ∀ A B, Q A B → OutK kc A B) (hA : LstI A' B' h ksV a V) (hAc : OutK kc A' B') (hAB : B' ≤ F) (hok : ckOk (.i .i64) (.int .i64 c) ∧ ckOk (.i .u64) (.int .u64 t) ∧ ckOk .s (.str n)) (hV : V.length ≤ 100000) (hsm : ∀ q ∈ L, smallP 100000 q) (hL : L.length ≤ 1024) (hy : 0 ≤ y ∧ y ≤ 100000) (hz : 0 ≤ z ∧ z ≤ 100000) :
    SndQ Tryz.prog [] 14 [.ptr kc 0, .agg [.int .i64 c, .int .u64 t, .str n, a]] ⟨h, F⟩ (SL 14 [.ptr kc 0, .agg [.int .i64 c, .int .u64 t, .str n, a]] ⟨h, F⟩) :=
  (getA h F kc k A' B' c t n a m l y z V Q G X L hkc hk hne hg g kp hG hQk hA hAc hAB hok hV hsm hL hy hz).mono fun o ho => fun m' l' y' z' X' L' V' hg' ⟨o', k', g'⟩ ⟨Q', G', kp'⟩ hV' => by
    have e := mkRow_inj (Option.some.inj (hg.symm.trans hg'))
    simp only [List.cons.injEq, AV.int.injEq, true_and, and_true] at e
    obtain ⟨rfl, rfl, rfl, rfl⟩ := e
    obtain rfl := LS.uniq g g'
    obtain rfl := kept_uniq g (by rw [kp.1]; exact Nat.le_trans hL (by decide)) kp kp'
    obtain rfl := LstP.uniq hA.p hV'
    exact ho
theorem getBQ (hkc : kc < ky F 0) (hk : k < ky F 0) (hne : kc ≠ k) (hg : hget h kc = some (mkRow [m, l, .int .i64 y, .int .i64 z] 0)) (g : LS false h k 8 l X) (kp : Kept Q G h X L) (hG : G ≤ F) (hQk : ∀ A B, Q A B → OutK kc A B) (hA : LstI A' B' h ksV a V) (hAc : OutK kc A' B') (hAB : B' ≤ F) (hok : ckOk (.i .i64) (.int .i64 c) ∧ ckOk (.i .u64) (.int .u64 t) ∧ ckOk .s (.str n)) (hV : V.length ≤ 100000) (hsm : ∀ q ∈ L, smallP 100000 q) (hL : L.length ≤ 1024) (hy : 0 ≤ y ∧ y ≤ 100000) (hz : 0 ≤ z ∧ z ≤ 100000) :
    SndQ Tryz.prog [] 16 [.ptr kc 0, .agg [.int .i64 c, .int .u64 t, .str n, a]] ⟨h, F⟩ (SL 16 [.ptr kc 0, .agg [.int .i64 c, .int .u64 t, .str n, a]] ⟨h, F⟩) :=
  (getB h F kc k A' B' c t n a m l y z V Q G X L hkc hk hne hg g kp hG hQk hA hAc hAB hok hV hsm hL hy hz).mono fun o ho => fun m' l' y' z' X' L' V' hg' ⟨o', k', g'⟩ ⟨Q', G', kp'⟩ hV' => by
    have e := mkRow_inj (Option.some.inj (hg.symm.trans hg'))
    simp only [List.cons.injEq, AV.int.injEq, true_and, and_true] at e
    obtain ⟨rfl, rfl, rfl, rfl⟩ := e
    obtain rfl := LS.uniq g g'
    obtain rfl := kept_uniq g (by rw [kp.1]; exact Nat.le_trans hL (by decide)) kp kp'
    obtain rfl := LstP.uniq hA.p hV'
    exact ho
end
section
variable {h : Heap} {F kc k A' B' : Nat} {w m l y n : AV} {U : List (List AV)} {Q : Nat → Nat → Prop} {G : Nat} {X : List (List AV)} {L : List PV}
theorem touchAQ (hkc : kc < ky F 0) (hk : k < ky F 0) (hne : kc ≠ k) (hg : hget h kc = some (mkRow [m, l, y, n] 0)) (g : LS true h k 8 l X) (kp : Kept Q G h X L) (hG : G ≤ F) (hQk : ∀ A B, Q A B → OutK k A B) (hU : LstI A' B' h ksW w U) (hUk : OutK k A' B') (hUB : B' ≤ F) (hn : L.length ≤ 1024) :
    SndQ Tryz.prog [] 17 [.ptr kc 0, w] ⟨h, F⟩ (SL 17 [.ptr kc 0, w] ⟨h, F⟩) :=
  (touchA h F kc k A' B' w U m l y n Q G X L hkc hk hne hg g kp hG hQk hU hUk hUB (by omega)).mono fun o ho => fun m' l' y' n' X' L' U' hg' ⟨o', k', g'⟩ ⟨Q', G', kp'⟩ hU' => by
    have e := mkRow_inj (Option.some.inj (hg.symm.trans hg'))
    simp only [List.cons.injEq, and_true] at e
    obtain ⟨rfl, rfl, rfl, rfl⟩ := e
    obtain rfl := LS.uniq g g'
    obtain rfl := kept_uniq g (by rw [kp.1]; exact Nat.le_trans hn (by decide)) kp kp'
    obtain rfl := LstP.uniq hU.p hU'
    exact ho
theorem touchBQ (hkc : kc < ky F 0) (hk : k < ky F 0) (hne : kc ≠ k) (hg : hget h kc = some (mkRow [m, l, y, n] 0)) (g : LS false h k 8 l X) (kp : Kept Q G h X L) (hG : G ≤ F) (hQk : ∀ A B, Q A B → OutK kc A B) (hU : LstI A' B' h ksW w U) (hUk : OutK kc A' B') (hUB : B' ≤ F) (hn : L.length ≤ 1024) (hnU : U.length ≤ 100000) (hsm : ∀ q ∈ L, smallP 100000 q) :
    SndQ Tryz.prog [] 18 [.ptr kc 0, w] ⟨h, F⟩ (SL 18 [.ptr kc 0, w] ⟨h, F⟩) :=
  (touchB h F kc k A' B' w U m l y n Q G X L hkc hk hne hg g kp hG hQk hU hUk hUB hn hnU hsm).mono fun o ho => fun m' l' y' n' X' L' U' hg' ⟨o', k', g'⟩ ⟨Q', G', kp'⟩ hU' => by
    have e := mkRow_inj (Option.some.inj (hg.symm.trans hg'))
    simp only [List.cons.injEq, and_true] at e
    obtain ⟨rfl, rfl, rfl, rfl⟩ := e
    obtain rfl := LS.uniq g g'
    obtain rfl := kept_uniq g (by rw [kp.1]; exact Nat.le_trans hn (by decide)) kp kp'
    obtain rfl := LstP.uniq hU.p hU'
    exact ho
end
theorem passLQ {h : Heap} {F : Nat} {x : List AV} {p : PV} (e : PasP h x p) (hn : smallP 100000 p) : SndQ Tryz.prog [] 9 [.agg x] ⟨h, F⟩ (SL 9 [.agg x] ⟨h, F⟩) := passQ e hn
theorem spoilQ {h : Heap} {F A B : Nat} {p : PV} {x : List AV} (hx : PasI A B h x p) (wx : WrX h x) (hBF : B ≤ F) (hn : smallP 100000 p) : SndQ Tryz.prog [] 13 [.agg x] ⟨h, F⟩ (SL 13 [.agg x] ⟨h, F⟩) := spoilA h F A B p x hx wx hBF hn
theorem reqQ {h : Heap} {F : Nat} {c t : Int} {n : Tx} {a : AV} {V : List (List AV)} (hA : LstP h ksV a V) (hV : V.length ≤ 100000) : SndQ Tryz.prog [] 15 [.agg [.int .i64 c, .int .u64 t, .str n, a]] ⟨h, F⟩ (SL 15 [.agg [.int .i64 c, .int .u64 t, .str n, a]] ⟨h, F⟩) :=
  (reqA h F c t n a V hA hV).mono fun o ho => fun V' hV' => by
    obtain rfl := LstP.uniq hA hV'
    exact ho
theorem newAQ {h : Heap} {F : Nat} {m : Int} : SndQ Tryz.prog [] 6 [.int .i64 m] ⟨h, F⟩ (SL 6 [.int .i64 m] ⟨h, F⟩) := newNA h F m
theorem newBQ {h : Heap} {F : Nat} {m : Int} : SndQ Tryz.prog [] 7 [.int .i64 m] ⟨h, F⟩ (SL 7 [.int .i64 m] ⟨h, F⟩) := newNB h F m

end Go.Proofs.YtmnhaoadhkdinaaGreatDoor

/-! A cache and its passes, step by step (ReconCaches's loop). -/
namespace Go.Ai
open Go
/-- what is said of the frames of kept passes -/
def QC (F k kx : Nat) (E : Nat → Nat → Prop) : Nat → Nat → Prop := fun A B => F + 3 ≤ A ∧ OutK k A B ∧ OutK kx A B ∧ E A B
/-- a cache: its block, its list's block, the other's list's block -/
def CI (F g : Nat) (h : Heap) (kc : Nat) (o : Bool) (most : Nat) (y z : Int) (k kx : Nat) (E : Nat → Nat → Prop) (L : List PV) : Prop := ∃ l X, hget h kc = some (mkRow [.int .i64 (most : Int), l, .int .i64 y, .int .i64 z] 0) ∧ LS o h k 8 l X ∧ Kept (QC F k kx E) g h X L
section
variable {F g g' : Nat} {h h' : Heap} {kc : Nat} {o : Bool} {most : Nat} {y z : Int} {k kx : Nat} {E : Nat → Nat → Prop} {L : List PV}
/-- another's acts -/
theorem CI.frame (c : CI F g h kc o most y z k kx E L) (h1 : hget h' kc = hget h kc) (h2 : hget h' k = hget h k) (h3 : ∀ A B, F + 3 ≤ A → B ≤ g → OutK k A B → OutK kx A B → E A B → EqI A B h h') (hg : g ≤ g') : CI F g' h' kc o most y z k kx E L := by
  obtain ⟨l, X, c1, c2, c3⟩ := c
  exact ⟨l, X, h1.trans c1, c2.move h2, (c3.eqs fun A B q hB => h3 A B q.1 hB q.2.1 q.2.2.1 q.2.2.2).mono (fun _ _ q => q) hg⟩
theorem outK_new {A B g k : Nat} (hB : B ≤ g) (hk : ky g 0 ≤ k) : OutK k A B := .inr (Nat.le_trans (ky_mono hB) hk)
theorem CI.other (c : CI F g h kc o most y z k kx E L) {kx' : Nat} (hk : kx' = kx ∨ ky g 0 ≤ kx') : CI F g h kc o most y z k kx' E L := by
  obtain ⟨l, X, c1, c2, c3⟩ := c
  refine ⟨l, X, c1, c2, c3.1, fun j x p hx hp => ?_⟩
  obtain ⟨A, B, q, hB, e⟩ := c3.2 j x p hx hp
  refine ⟨A, B, ⟨q.1, q.2.1, ?_, q.2.2.2⟩, hB, e⟩
  rcases hk with rfl | hk
  · exact q.2.2.1
  · exact outK_new hB hk
/-- all below the frame but two blocks -/
def Low2 (ka kb F : Nat) (h h' : Heap) : Prop := ∀ i, i < ky F 0 → i ≠ ka → i ≠ kb → hget h' i = hget h i
theorem Low2.eqI {ka kb F A B : Nat} {h h' : Heap} (hl : Low2 ka kb F h h') (ha : OutK ka A B) (hb : OutK kb A B) (hB : B ≤ F) : EqI A B h h' := fun i h1 h2 => hl i (Nat.lt_of_lt_of_le h2 (ky_mono hB)) (by intro e; rcases ha with h | h <;> omega) (by intro e; rcases hb with h | h <;> omega)
theorem LowK.two {ka kb F : Nat} {h h' : Heap} (hl : LowK ka F h h') : Low2 ka kb F h h' := fun i hi h1 _ => hl i hi h1
theorem Low2.low {ka kb F F0 : Nat} {h h' : Heap} (hl : Low2 ka kb F h h') (ha : ky F0 0 ≤ ka) (hb : ky F0 0 ≤ kb) (hF : F0 ≤ F) : Low F0 h h' := fun i hi => hl i (Nat.lt_of_lt_of_le hi (ky_mono hF)) (by omega) (by omega)
theorem outC {c A B : Nat} (hA : F + 3 ≤ A) (hc : kc = ky (F + 1) c ∨ kc = ky (F + 2) c) (hcc : c ≤ 1267650600228229401496703205375) : OutK kc A B := by
  have h3 : ky (F + 3) 0 ≤ ky A 0 := ky_mono hA
  rcases hc with rfl | rfl
  · have h1 := ky_next (F + 1) c hcc
    have h2 : ky (F + 1 + 1) 0 ≤ ky (F + 3) 0 := ky_mono (by omega)
    exact .inl (by omega)
  · have h1 := ky_next (F + 2) c hcc
    have h2 : ky (F + 2 + 1) 0 ≤ ky (F + 3) 0 := Nat.le_refl _
    exact .inl (by omega)
/-- a cache under another's acts, which write two blocks and what is new -/
theorem CI.low2 {ka kb c : Nat} (ci : CI F g h kc o most y z k kx E L) (hl : Low2 ka kb g h h') (hc : kc ≠ ka ∧ kc ≠ kb ∧ kc < ky g 0) (hk : k ≠ ka ∧ k ≠ kb ∧ k < ky g 0) (ha : ka = ky (F + 1) c ∨ ka = ky (F + 2) c) (hcc : c ≤ 1267650600228229401496703205375) (hb : kb = kx ∨ kb = ka) (hg : g ≤ g') : CI F g' h' kc o most y z k kx E L :=
  ci.frame (hl kc hc.2.2 hc.1 hc.2.1) (hl k hk.2.2 hk.1 hk.2.1) (fun A B hA hB _ ho _ => hl.eqI (outC hA ha hcc) (by rcases hb with rfl | rfl; exact ho; exact outC hA ha hcc) hB) hg
/-- nothing but the law's own boxes and what is new -/
theorem CI.eq (c : CI F g h kc o most y z k kx E L) (he : EqI (F + 1) g h h') (hc : ky (F + 1) 0 ≤ kc ∧ kc < ky g 0) (hk : ky (F + 1) 0 ≤ k ∧ k < ky g 0) (hg : g ≤ g') : CI F g' h' kc o most y z k kx E L :=
  c.frame (he kc hc.1 hc.2) (he k hk.1 hk.2) (fun A B hA hB _ _ _ b h1 h2 => he b (Nat.le_trans (ky_mono (by omega)) h1) (Nat.lt_of_lt_of_le h2 (ky_mono hB))) hg
theorem CI.up (c : CI F g h kc o most y z k kx E L) (hg : g ≤ g') : CI F g' h kc o most y z k kx E L := c.frame rfl rfl (fun A B _ _ _ _ _ => EqI.refl A B h) hg
theorem CI.weak {E' : Nat → Nat → Prop} (c : CI F g h kc o most y z k kx E L) (hE : ∀ A B, B ≤ g → E A B → E' A B) : CI F g h kc o most y z k kx E' L := by
  obtain ⟨l, X, c1, c2, c3⟩ := c
  refine ⟨l, X, c1, c2, c3.1, fun j x p hx hp => ?_⟩
  obtain ⟨A, B, q, hB, e⟩ := c3.2 j x p hx hp
  exact ⟨A, B, ⟨q.1, q.2.1, q.2.2.1, hE A B hB q.2.2.2⟩, hB, e⟩
/-- writes in frames of which nothing is kept -/
theorem CI.chg {a b : Nat} (c : CI F g h kc o most y z k kx E L) (hl : ∀ i, i < ky g 0 → (i < ky a 0 ∨ ky b 0 ≤ i) → hget h' i = hget h i) (hE : ∀ A B, E A B → B ≤ a ∨ b ≤ A) (hc : kc < ky g 0 ∧ kc < ky a 0) (hk : k < ky g 0 ∧ (k < ky a 0 ∨ ky b 0 ≤ k)) (hg : g ≤ g') : CI F g' h' kc o most y z k kx E L :=
  c.frame (hl kc hc.1 (.inl hc.2)) (hl k hk.1 hk.2) (fun A B _ hB _ _ e i h1 h2 => hl i (Nat.lt_of_lt_of_le h2 (ky_mono hB)) (by
    rcases hE A B e with h | h
    · exact .inl (Nat.lt_of_lt_of_le h2 (ky_mono h))
    · exact .inr (Nat.le_trans (ky_mono h) h1))) hg
/-- one more pass -/
theorem CI.put {c lo hi k' : Nat} {l l' : AV} {X : List (List AV)} {x1 : List AV} {p : PV} (c1 : hget h kc = some (mkRow [.int .i64 (most : Int), l, .int .i64 y, .int .i64 z] 0)) (c2 : LS o h k 8 l X) (c3 : Kept (QC F k kx E) g h X L) (hc : kc = ky (F + 1) c ∨ kc = ky (F + 2) c) (hcc : c ≤ 1267650600228229401496703205375) (hkg : k < ky g 0) (hxg : kx < ky g 0) (hgF : F + 3 ≤ g) (hlo : g + 1 ≤ lo) (hhi : hi ≤ g')
    (hg' : hget h' kc = some (mkRow [.int .i64 (most : Int), l', .int .i64 y, .int .i64 z] 0)) (gl : LS o h' k' 8 l' (putX most X (fndP p.nm p.args L) x1)) (hk' : atKey l k' ∨ (ky g 0 ≤ k' ∧ k' < ky g' 0 ∧ OutK k' lo hi)) (hx : PasI lo hi h' x1 p) (hun : ∀ i, i < ky g 0 → i ≠ kc → keyNe l i → hget h' i = hget h i) (hgg : g ≤ g') (hE : E lo hi) :
    CI F g' h' kc o most y z k' kx E (putP most L p) ∧ (k' = k ∨ ky g 0 ≤ k') ∧ k' < ky g' 0 ∧ Low2 kc k g h h' := by
  have hun2 : Low2 kc k g h h' := fun i hi h1 h2 => hun i hi h1 (c2.ne h2)
  have hkk : k' = k ∨ ky g 0 ≤ k' := hk'.imp (fun ⟨_, _, _, _, e⟩ => c2.key e) (·.1)
  have hlt : ky g 0 ≤ ky lo 0 := ky_mono (by omega)
  have hgg0 : ky g 0 ≤ ky g' 0 := ky_mono hgg
  refine ⟨⟨l', _, hg', gl, Kept.put (Q := QC F k' kx E) (A := lo) (B := hi) ?_ ⟨by omega, ?_, .inl (by omega), hE⟩ hhi hx⟩, hkk, ?_, hun2⟩
  · refine ⟨c3.1, fun j x q hx hq => ?_⟩
    obtain ⟨A, B, q1, hB, e⟩ := c3.2 j x q hx hq
    refine ⟨A, B, ⟨q1.1, ?_, q1.2.2.1, q1.2.2.2⟩, by omega, e.move (hun2.eqI (outC q1.1 hc hcc) q1.2.1 hB)⟩
    rcases hkk with rfl | hkk
    · exact q1.2.1
    · exact outK_new hB hkk
  · rcases hk' with ⟨_, _, _, _, e⟩ | e
    · rw [c2.key e]; exact .inl (by omega)
    · exact e.2.2
  · rcases hk' with ⟨_, _, _, _, e⟩ | e
    · rw [c2.key e]; omega
    · exact e.2.1
/-- touched ones go -/
theorem CI.touch {ks : List (List UInt8)} {c k' : Nat} {l' : AV} {X : List (List AV)} (c3 : Kept (QC F k kx E) g h X L) (hc : kc = ky (F + 1) c ∨ kc = ky (F + 2) c) (hcc : c ≤ 1267650600228229401496703205375)
    (hg' : hget h' kc = some (mkRow [.int .i64 (most : Int), l', .int .i64 y, .int .i64 z] 0)) (gl : LS o h' k' 8 l' ((kpZ ks X L L.length).map (·.1))) (hk' : k' = k ∨ ky g 0 ≤ k') (hun : Low2 kc k g h h') (hgg : g ≤ g') : CI F g' h' kc o most y z k' kx E (tchL ks L) := by
  refine ⟨l', _, hg', gl, ?_⟩
  rw [← kpZ_snd c3.1]
  refine Kept.kpZ ⟨c3.1, fun j x q hx hq => ?_⟩
  obtain ⟨A, B, q1, hB, e⟩ := c3.2 j x q hx hq
  refine ⟨A, B, ⟨q1.1, ?_, q1.2.2.1, q1.2.2.2⟩, by omega, e.move (hun.eqI (outC q1.1 hc hcc) q1.2.1 hB)⟩
  rcases hk' with rfl | hk'
  · exact q1.2.1
  · exact outK_new hB hk'
/-- the counts alone -/
theorem CI.count {c : Nat} {y' z' : Int} {l : AV} {X : List (List AV)} (c2 : LS o h k 8 l X) (c3 : Kept (QC F k kx E) g h X L) (hc : kc = ky (F + 1) c ∨ kc = ky (F + 2) c) (hcc : c ≤ 1267650600228229401496703205375) (hk : k ≠ kc ∧ k < ky g 0)
    (hg' : hget h' kc = some (mkRow [.int .i64 (most : Int), l, .int .i64 y', .int .i64 z'] 0)) (hun : LowK kc g h h') (hgg : g ≤ g') : CI F g' h' kc o most y' z' k kx E L :=
  ⟨l, X, hg', c2.move (hun k hk.2 hk.1), (c3.eqs fun A B q hB => hun.eqI (outC q.1 hc hcc) hB).mono (fun _ _ q => q) hgg⟩
end
theorem wrx_move {A B : Nat} {h h' : Heap} {x : List AV} {p : PV} (wx : WrX h x) (hp : PasI A B h x p) (he : EqI A B h h') : WrX h' x := by
  obtain ⟨_, a, r, w, i, rfl, h1, h2, h3, h4⟩ := hp
  exact .pas ((wx.sub (by simp)).move h1 he) ((wx.sub (by simp)).move h2 he) ((wx.sub (by simp)).move h3 he) ((wx.sub (by simp)).move h4 he)
theorem putP_mem {most : Nat} {L : List PV} {p q : PV} (h : q ∈ putP most L p) : q ∈ L ∨ q = p := by
  unfold putP at h
  have h1 := List.mem_of_mem_drop h
  rcases List.mem_append.1 h1 with h2 | h2
  · left
    cases ho : fndP p.nm p.args L with
    | none => rw [ho] at h2; exact h2
    | some i => rw [ho] at h2; exact List.mem_of_mem_eraseIdx h2
  · right; simpa using h2
theorem tchL_mem {ks : List (List UInt8)} {L : List PV} {q : PV} (h : q ∈ tchL ks L) : q ∈ L := (List.mem_filter.1 h).1
end Go.Ai

/-! A loop and what holds behind it: the rest is walked once. -/
namespace Go.Ai
open Go
variable {P : Program} {G : Glob} {K : CallF} {m : Nat} {Q : Ex → Fr → St → Prop}
def exitQ (j : Nat) (R : Fr → St → Prop) : Ex → Fr → St → Prop
  | .exit i, fr, s => i = j ∧ R fr s
  | _, _, _ => False
theorem exit_at {j : Nat} {R : Fr → St → Prop} {fr : Fr} {s : St} (h : R fr s) : exitQ j R (.exit j) fr s := ⟨rfl, h⟩
theorem r_loopE {I : Nat → Fr → St → Prop} {R : Fr → St → Prop} {n j : Nat} {b : Code} {fr : Fr} {s : St} (hn : n < m) (hi : I n fr s) (h : ∀ n fr s, I n fr s → WR (code P G K m b fr s) (roundQ I n (exitQ j R))) (hx : ∀ fr s, R fr s → Q (.exit j) fr s) : WR (code P G K m (.loop b) fr s) Q := by
  refine WR.mono (r_loop hn hi h) ?_
  intro e fr s he
  cases e with
  | exit i => obtain ⟨rfl, hr⟩ := he; exact hx fr s hr
  | normal => exact he.elim
  | ret => exact he.elim
  | pan v => exact he.elim
end Go.Ai

namespace Go.Proofs.YtmnhaoadhkdinaaGreatDoor
open Go Go.Ai
set_option maxRecDepth 100000

/-- an act -/
structure DV where
  kind : Int
  ps : PV
  rc : Int
  rt : Int
  rn : Tx
  rargs : List (List AV)
  w : List (List AV)
abbrev ksD : List CK := [.i .i64, .i .i64, .i .u64, .s, .l, .i .i64, .l, .l, .l, .i .i64, .i .u64, .s, .l, .l]
/-- the acts in memory -/
def DidP (h : Heap) (l : AV) (D : List DV) : Prop := ∃ X, LstP h ksD l X ∧ X.length = D.length ∧ ∀ (j : Nat) (x : List AV) (d : DV), X[j]? = some x → D[j]? = some d → ∃ a r w i ra wv, x = [.int .i64 d.kind, .int .i64 d.ps.cl, .int .u64 d.ps.tok, .str d.ps.nm, a, .int .i64 d.ps.how, r, w, i, .int .i64 d.rc, .int .u64 d.rt, .str d.rn, ra, wv] ∧ LstP h ksV a d.ps.args ∧ LstP h ksT r (tL d.ps.rd) ∧ LstP h ksT w (tL d.ps.wr) ∧ LstP h ksIt i d.ps.it ∧ LstP h ksV ra d.rargs ∧ LstP h ksW wv d.w
theorem DidP.same {h h' : Heap} {l : AV} {D : List DV} (e : DidP h l D) (hs : SameH h h') : DidP h' l D := by
  obtain ⟨X, h1, h2, h3⟩ := e
  refine ⟨X, h1.same hs, h2, fun j x d hx hd => ?_⟩
  obtain ⟨a, r, w, i, ra, wv, e, k1, k2, k3, k4, k5, k6⟩ := h3 j x d hx hd
  exact ⟨a, r, w, i, ra, wv, e, k1.same hs, k2.same hs, k3.same hs, k4.same hs, k5.same hs, k6.same hs⟩
theorem DidP.len {h h2 : Heap} {l : AV} {D : List DV} (e : DidP h l D) : rLen1 Tryz.prog h2 22 (some l) = some (.int .i64 (D.length : Int)) := by
  obtain ⟨X, h1, h2, _⟩ := e
  rw [rLen1_L Tryz.underlying22 h1, h2]
theorem DidP.max {h : Heap} {l : AV} {D : List DV} (e : DidP h l D) : D.length ≤ maxLen := by
  obtain ⟨X, h1, h2, _⟩ := e
  rw [← h2]; exact h1.len
/-- one act, cell by cell -/
theorem did_at {h : Heap} {F : Nat} {l : AV} {D : List DV} (hw : Wf ⟨h, F⟩) (e : DidP h l D) {j : Nat} (hj : j < D.length) : ∃ b o eo cap d a r w i ra wv, l = .slice b o eo D.length cap ∧ b < ky F 0 ∧ D[j]? = some d ∧ rdAB (hget h b) (o + j * 14) 14 = some [.int .i64 d.kind, .int .i64 d.ps.cl, .int .u64 d.ps.tok, .str d.ps.nm, a, .int .i64 d.ps.how, r, w, i, .int .i64 d.rc, .int .u64 d.rt, .str d.rn, ra, wv] ∧ (∀ off m, off + m ≤ 14 → rdAB (hget h b) (o + j * 14 + off) m = some (([.int .i64 d.kind, .int .i64 d.ps.cl, .int .u64 d.ps.tok, .str d.ps.nm, a, .int .i64 d.ps.how, r, w, i, .int .i64 d.rc, .int .u64 d.rt, .str d.rn, ra, wv].drop off).take m)) ∧ cksOk ksD [.int .i64 d.kind, .int .i64 d.ps.cl, .int .u64 d.ps.tok, .str d.ps.nm, a, .int .i64 d.ps.how, r, w, i, .int .i64 d.rc, .int .u64 d.rt, .str d.rn, ra, wv] ∧ LstP h ksV a d.ps.args ∧ LstP h ksT r (tL d.ps.rd) ∧ LstP h ksT w (tL d.ps.wr) ∧ LstP h ksIt i d.ps.it ∧ LstP h ksV ra d.rargs ∧ LstP h ksW wv d.w := by
  obtain ⟨X, h1, h2, h3⟩ := e
  have hX : j < X.length := by omega
  obtain ⟨b, o, eo, cap, e, h0, hp⟩ := h1.at hX
  have hx : X[j]? = some X[j] := List.getElem?_eq_getElem hX
  have hd : D[j]? = some D[j] := List.getElem?_eq_getElem hj
  obtain ⟨a, r, w, i, ra, wv, ex, k⟩ := h3 j _ _ hx hd
  have hok := h1.ok hX
  rw [ex] at h0 hp hok
  exact ⟨b, o, eo, cap, D[j], a, r, w, i, ra, wv, by rw [e, h2], rd_low hw h0, hd, h0, hp, hok, k⟩
theorem did_ok {k c t n a how r w i c2 t2 n2 ra wv : AV} (h : cksOk ksD [k, c, t, n, a, how, r, w, i, c2, t2, n2, ra, wv]) : cksOk ksP [c, t, n, a, how, r, w, i] ∧ ckOk (.i .i64) c2 ∧ ckOk (.i .u64) t2 ∧ ckOk .s n2 := by
  obtain ⟨_, _, e, _, _, _, f1, k1, _, _, f2, k2, _, _, f3, k3, _, _, f4, k4, _, _, f5, k5, _, _, f6, k6, _, _, f7, k7, _, _, f8, k8, _, _, g1, m1, _, _, g2, m2, _, _, g3, m3, _⟩ := h
  cases e
  cases f1
  cases f2
  cases f3
  cases f4
  cases f5
  cases f6
  cases f7
  cases f8
  cases g1
  cases g2
  cases g3
  exact ⟨⟨_, _, rfl, k1, _, _, rfl, k2, _, _, rfl, k3, _, _, rfl, k4, _, _, rfl, k5, _, _, rfl, k6, _, _, rfl, k7, _, _, rfl, k8, rfl⟩, m1, m2, m3⟩
theorem keyN_of {A B : Nat} {h : Heap} {ks : List CK} {a : AV} {L : List (List AV)} (hl : LstI A B h ks a L) {i : Nat} (hi : i < ky A 0 ∨ ky B 0 ≤ i) : keyN a i := fun b o e n c e1 hp => by
  obtain ⟨h1, h2⟩ := hl.2 b o e n c e1 hp
  rintro rfl
  omega
theorem pas_keyN {A B : Nat} {h : Heap} {x : List AV} {p : PV} (hx : PasI A B h x p) {i : Nat} (hi : i < ky A 0 ∨ ky B 0 ≤ i) : ∀ a ∈ x, keyN a i := fun a ha => by
  obtain ⟨_, a1, r, w, i1, rfl, h1, h2, h3, h4⟩ := hx
  simp only [List.mem_cons, List.not_mem_nil, or_false] at ha
  have no : ∀ v : AV, (∀ b o e n c, v ≠ .slice b o e n c) → keyN v i := fun v hv b o e n c e1 => absurd e1 (hv b o e n c)
  rcases ha with rfl | rfl | rfl | rfl | rfl | rfl | rfl | rfl
  · exact no _ (by intros; simp)
  · exact no _ (by intros; simp)
  · exact no _ (by intros; simp)
  · exact keyN_of h1 hi
  · exact no _ (by intros; simp)
  · exact keyN_of h2 hi
  · exact keyN_of h3 hi
  · exact keyN_of h4 hi
/-- how many things it has -/
def DV.n (d : DV) : Nat := d.ps.it.length + d.w.length + d.rargs.length + d.ps.args.length + d.ps.rd.length + d.ps.wr.length
def smD : List DV → Nat → Nat
  | _, 0 => 0
  | [], _ + 1 => 0
  | d :: D, i + 1 => d.n + smD D i
theorem smD_zero (D : List DV) : smD D 0 = 0 := by cases D <;> rfl
theorem smD_succ : ∀ {D : List DV} {i : Nat} {d : DV}, D[i]? = some d → smD D (i + 1) = smD D i + d.n
  | [], _, _, h => by simp at h
  | e :: D, 0, d, h => by
    have : e = d := by simpa using h
    subst this
    simp [smD]
  | e :: D, i + 1, d, h => by
    have := smD_succ (D := D) (i := i) (d := d) (by simpa using h)
    rw [smD, this, smD]; omega
theorem smD_mem : ∀ {D : List DV} {d : DV}, d ∈ D → d.n ≤ smD D D.length
  | [], _, h => by simp at h
  | e :: D, d, h => by
    rw [List.length_cons, smD]
    rcases List.mem_cons.1 h with rfl | h
    · omega
    · have := smD_mem h; omega

end Go.Proofs.YtmnhaoadhkdinaaGreatDoor

