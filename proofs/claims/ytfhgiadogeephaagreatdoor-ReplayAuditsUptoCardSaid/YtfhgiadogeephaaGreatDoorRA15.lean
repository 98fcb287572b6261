/- A part of the proof of the law ReplayAudits. CONDITIONS: those that each theorem names. -/
import Derived.Test.YtfhgiadogeephaaGreatDoorPartA
import Derived.Test.YtfhgiadogeephaaGreatDoorRA11
import Derived.Test.YtfhgiadogeephaaGreatDoorPartD
import Derived.Test.YtfhgiadogeephaaGreatDoorRA14
namespace Go.Proofs.YtfhgiadogeephaaGreatDoor
open Go Go.Ai
set_option maxRecDepth 100000

theorem cells_cell {a : AV} (h : isCell a = true) : a.cells = [a] := by cases a <;> first | rfl | cases h
/-- what `does` looks at -/
def DoC (h : Heap) (p l : AV) (kk k1 k2 k4 k5 : Nat) (s3 : AV) (n w : Nat) (P1 P2 : List Int) (L4 L5 : List Bool) : Prop := p = .ptr kk 0 ∧ hget h kk = some (mkRow [l, s3, .slice k4 0 0 n (some n), .slice k5 0 0 n (some n), .slice k1 0 0 w (some w), .slice k2 0 0 w (some w)] 0) ∧ hget h k1 = some (aRow (ints P1)) ∧ hget h k2 = some (aRow (ints P2)) ∧ hget h k4 = some (aRow (bools L4)) ∧ hget h k5 = some (aRow (bools L5))
/-- what is said of breaks and of does -/
def SC (R W : List (List Tx)) (l : AV) : FuncId → List AV → St → Out → Prop
  | 34, [p, .agg [.int _ x, .int _ q, .int _ f]], s, o => ∀ b, CA s.h s.fc p l b → o = .val (.int .i64 (ruleB R W b ⟨x, q, f⟩)) s
  | 35, [p, .agg [.int _ x, .int _ q, .int _ f]], s, o => ∀ (kk k1 k2 k4 k5 : Nat) (s3 : AV) (n w : Nat) (P1 P2 : List Int) (L4 L5 : List Bool), DoC s.h p l kk k1 k2 k4 k5 s3 n w P1 P2 L4 L5 → ∃ v h', o = .val v ⟨h', s.fc + 1⟩ ∧ hget h' k1 = some (aRow (ints (P1.set x.toNat f))) ∧ hget h' k2 = some (aRow (ints (P2.set x.toNat (if f = 0 then -1 else q)))) ∧ hget h' k4 = some (aRow (bools (if f = 1 then L4.set q.toNat true else L4))) ∧ hget h' k5 = some (aRow (bools (if f = 0 then L5.set q.toNat true else L5))) ∧ ∀ i, i < ky s.fc 0 → i ≠ k1 → i ≠ k2 → i ≠ k4 → i ≠ k5 → hget h' i = hget s.h i
  | _, _, _, _ => True
theorem breaksQ {h : Heap} {F : Nat} {p l : AV} {b : Bk} {x q f : Int} {R W : List (List Tx)} {w : Nat} (hc : CA h F p l (bP b)) (gd : Gd w R.length b) (hL : EntP h l R W) (hroom : RoomA l) (hn : R.length ≤ 100) :
    SndQ Tryz.prog [] 34 [p, .agg [.int .i64 x, .int .i64 q, .int .i64 f]] ⟨h, F⟩ (SC R W l 34 [p, .agg [.int .i64 x, .int .i64 q, .int .i64 f]] ⟨h, F⟩) := by
  have hc0 := hc
  obtain ⟨kk, s1, s2, s3, s4, s5, rfl, hk, hg, g1, g2, g3, g4, g5⟩ := hc
  exact ⟨_, breaksA h F kk s1 s2 s3 s4 s5 l b x q f R W w hk hg g1 g2 g3 g4 g5 gd hL hroom hn, fun o ho b' hb' => by rw [List.mem_singleton.1 ho, CA.inj hb' hc0, rule_bP gd]⟩
theorem doQ {h : Heap} {F : Nat} {p l : AV} {kk k1 k2 k4 k5 : Nat} {s3 : AV} {n w : Nat} {b : Bk} {j s : Nat} {f : Int} {R W : List (List Tx)} (hkk : kk < ky F 0) (hk1 : k1 < ky F 0) (hk2 : k2 < ky F 0) (hk4 : k4 < ky F 0) (hk5 : k5 < ky F 0) (kf : (kk = k1) = False ∧ (kk = k2) = False ∧ (kk = k4) = False ∧ (kk = k5) = False ∧ (k1 = kk) = False ∧ (k1 = k2) = False ∧ (k1 = k4) = False ∧ (k1 = k5) = False ∧ (k2 = kk) = False ∧ (k2 = k1) = False ∧ (k2 = k4) = False ∧ (k2 = k5) = False ∧ (k4 = kk) = False ∧ (k4 = k1) = False ∧ (k4 = k2) = False ∧ (k4 = k5) = False ∧ (k5 = kk) = False ∧ (k5 = k1) = False ∧ (k5 = k2) = False ∧ (k5 = k4) = False) (hc : DoC h p l kk k1 k2 k4 k5 s3 n w b.ph (hsP b) b.ta b.re) (gd : Gd w n b) (hj : j < w) (hs : s < n) :
    SndQ Tryz.prog [] 35 [p, .agg [.int .i64 (j : Int), .int .i64 (s : Int), .int .i64 f]] ⟨h, F⟩ (SC R W l 35 [p, .agg [.int .i64 (j : Int), .int .i64 (s : Int), .int .i64 f]] ⟨h, F⟩) := by
  obtain ⟨rfl, h0, r1, r2, r4, r5⟩ := hc
  refine (doesA h F kk k1 k2 k4 k5 l s3 0 0 0 0 (some w) (some w) (some n) (some n) b j s f n w hkk hk1 hk2 hk4 hk5 kf h0 r1 r2 r4 r5 gd hj hs).mono fun o ho => ?_
  intro kk' k1' k2' k4' k5' s3' n' w' P1 P2 L4 L5 hc'
  obtain ⟨e, h0', r1', r2', r4', r5'⟩ := hc'
  cases e
  have := mkRow_inj (Option.some.inj (h0.symm.trans h0'))
  simp only [List.cons.injEq, AV.slice.injEq, Option.some.injEq, true_and, and_true] at this
  obtain ⟨rfl, ⟨rfl, rfl, _⟩, ⟨rfl, _, _⟩, ⟨rfl, rfl, _⟩, rfl, _, _⟩ := this
  obtain rfl := ints_inj (aRow_inj r1 r1')
  obtain rfl := ints_inj (aRow_inj r2 r2')
  obtain rfl := bools_inj (aRow_inj r4 r4')
  obtain rfl := bools_inj (aRow_inj r5 r5')
  obtain ⟨v, h', rfl, q1, q2, q4, q5, q6⟩ := ho
  rw [hsP_step] at q2
  exact ⟨v, h', rfl, q1, q2, q4, q5, q6⟩
noncomputable def hiL (N i : Nat) : List Int := (List.range N).map fun j => if j < i then -1 else 0
theorem hiL_0 (N : Nat) : hiL N 0 = List.replicate N 0 := by
  unfold hiL
  simp only [Nat.not_lt_zero, if_false, List.map_const', List.length_range]
theorem hiL_N (N : Nat) : hiL N N = List.replicate N (-1) := by
  unfold hiL
  rw [rsame (f := fun _ => (-1 : Int)) fun t ht => if_pos ht, List.map_const', List.length_range]
theorem hiL_len (N i : Nat) : (hiL N i).length = N := by simp [hiL]
theorem hiL_set (N i : Nat) : (hiL N i).set i (-1) = hiL N (i + 1) := by
  refine rset (by simp) fun t _ ht => ?_
  by_cases h : t < i
  · rw [if_pos h, if_pos (by omega)]
  · rw [if_neg h, if_neg (by omega)]
theorem ints_rep (n : Nat) (x : Int) : List.replicate n (AV.int .i64 x) = ints (List.replicate n x) := by simp [ints]
set_option maxHeartbeats 16000000 in
theorem auditA (hh : Heap) (F : Nat) (l fu e : AV) (w : Int) (whole : Bool) (R W : List (List Tx)) (full : List Int) (ds : List Ev) (hL' : EntP hh l R W) (hroom : RoomA l) (hF' : LstP hh ks1 fu (iL full)) (hD' : LstP hh ksD e (evL ds)) (hn : R.length ≤ 100) (hwn : w ≤ 1000) (hfl : full.length ≤ 1000000) (hds : ds.length ≤ 1000) :
    SndQ Tryz.prog [] 12 [l, .int .i64 w, fu, e, .bool whole] ⟨hh, F⟩ (fun o => ∃ v h' g, o = .val v ⟨h', g⟩ ∧ F + 1 ≤ g ∧ g ≤ F + 1 + ds.length ∧ LstI F (F + 1) h' ks2 v (pL (audF R W w.toNat full ds whole)) ∧ Low F hh h' ∧ SameH hh h') := by
  have mxl : maxLen = 9223372036854775807 := by decide
  refine sndQ_wf fun hwf => sndQ_clean fun h hw hlow0 hcl => ?_
  have hS0 := hlow0.same hwf
  have hL : EntP h l R W := hL'.same hS0
  have hF : LstP h ks1 fu (iL full) := hF'.same hS0
  have hD : LstP h ksD e (evL ds) := hD'.same hS0
  have lL := fun (h2 : Heap) => hL.len (h2 := h2)
  have lD := fun (h2 : Heap) => rLen1_L (h2 := h2) Tryz.underlying39 hD
  rw [evL_len] at lD
  have lF := fun (h2 : Heap) => rLen1_L (h2 := h2) Tryz.underlying38 hF
  rw [iL_len] at lF
  have icl : isCell l = true := by
    obtain ⟨X, hX, _⟩ := hL
    exact isCell_L hX
  have sl0 : avEq l l = true := by
    obtain ⟨X, hX, _⟩ := hL
    exact av_self_L hX
  have xc := cells_cell icl
  have xc2 := xc
  simp only [AV.cells] at xc2
  have nmb := fun (key : Nat) => nMS_b (P := Tryz.prog) (key := key) (n := R.length) sz4 byB1 zr4 (show 1 * R.length ≤ 1073741824 by omega) (show R.length ≤ 1073741824 by omega)
  have bre : bRow (List.replicate R.length false) = aRow (bools (List.replicate R.length false)) := rfl
  simp only [bre] at nmb
  have nmi := fun (key : Nat) => nMS_a (P := Tryz.prog) (key := key) (n := w.toNat) sz3 byI zr3 rfl (by omega) (by omega)
  have nm6 := fun (key : Nat) => nMS_a (P := Tryz.prog) (key := key) (n := w.toNat) sz2 byI6 zr2 rfl (by omega) (by omega)
  simp only [ints_rep] at nmi nm6
  have cl := fun (c : Nat) => hcl (ky F c) (ky_le F c)
  have mx := fun (s : St) => aMx_0 (s := s) (a := w)
  refine sndQ_body (K := (KA (SC R W l))) ka_ok mixed noNum (m := R.length + ds.length + full.length + w.toNat + 1) Tryz.func12 ?_
  generalize hQ : retQ _ _ _ _ _ _ = Q0
  refine body_go (c := Tryz.f12.body.getD .skip) (n := 124) rfl rfl (by simp only [↓reduceIte, T.setList, T.set_e, T.set_n, Nat.reduceDiv, Nat.reduceMod, Nat.reduceEqDiff, Nat.reduceSub, Nat.reduceAdd, Nat.zero_add] <;> rfl) ?_
  simp only [Tryz.f12, Option.getD_some]
  repeat' (first | refine st ?_ | ((with_reducible apply (r_drawG (id := 2) (js := [(0, 0), (1, 0), (2, 2), (3, 6), (4, 0), (5, 16), (6, 48), (7, 0), (8, 128), (9, 384), (10, 0), (11, 1024), (12, 0), (13, 4096), (14, 16383), (15, 32767), (16, 65535)]))); (focus kernel_rfl); (focus kernel_rfl); (focus (exact sd1))) | ((with_reducible apply g_end); (focus (simp only [List.length_cons, List.length_nil, Nat.reduceAdd, Nat.zero_add] <;> rfl)); simp only [withH_mk, addAll_nil, addAll_cons, ↓reduceIte, withH_mk, ky_inj, hget_hset_ite, Nat.reduceAdd, Nat.reduceEqDiff, Nat.reduceSub, Int.reduceNeg, T.set_n, T.set_e, Nat.reduceDiv, Nat.reduceMod, mad1_t, addAll_nil, addAll_cons, cl]) | ((with_reducible apply g_undef); (focus rfl); (focus (simp only [↓reduceIte, Nat.reduceEqDiff, Nat.reduceSub, T.set_n, T.set_e, Nat.reduceDiv, Nat.reduceMod, wantedA_none] <;> rfl)); (focus (exact sd6))) | ((with_reducible apply g_pure); (focus rfl); (focus rfl); (focus rfl); (focus (simp only [↓reduceIte, Fr.ev, evParts, AV.cells, pureOp, List.length_cons, List.length_nil, List.getElem?_cons_zero, List.getElem?_cons_succ, Nat.zero_add, Nat.reduceAdd, Nat.reduceEqDiff, Nat.reduceSub, pBuild, pBuild2, fieldsOk, buildParts, T.get_n, T.set_n, T.set_e, Nat.reduceDiv, Nat.reduceMod, sz38, sz43, sz83, sz84, zr86, Tryz.underlying86, xc2] <;> rfl)); (focus (exact sd6))) | ((with_reducible apply g_read); (focus rfl); (focus rfl); (focus rfl); (focus (simp only [↓reduceIte, Fr.ev, ky_inj, readOp, hget_hset_ite, List.getElem?_cons_zero, Nat.reduceAdd, Nat.reduceEqDiff, Nat.reduceSub, decide_false, T.get_n, T.set_n, T.set_e, Nat.reduceDiv, Nat.reduceMod, rCall, rLen, Nat.testBit_eq_decide_div_mod_eq, Nat.reducePow, addMade_nil, addMade_cons, mad1_f, lL, cl] <;> rfl)); (focus (exact sd6))) | ((with_reducible apply g_alloc); (focus rfl); (focus rfl); (focus rfl); (focus (simp only [keyOf_mk] <;> rfl)); (focus (simp only [↓reduceIte, allocOp, Fr.ev, nVar, AV.cells, rowOf_mk, Nat.reduceAdd, Nat.reduceEqDiff, Nat.reduceSub, T.get_n, T.set_n, T.set_e, Nat.reduceDiv, Nat.reduceMod, Tryz.underlying38, Tryz.underlying83, Tryz.underlying84, nmb, nmi, nm6] <;> rfl)); (focus (simp only [Nat.reduceAdd, cl])); (focus (exact sd6))) | ((with_reducible apply r_drawL); (focus kernel_rfl); (focus kernel_rfl); (focus (exact sd1))) | ((with_reducible (first | apply r_any | apply r_cond)); focus (simp only [↓reduceIte, clsOf, clsCall, Fr.ev, evs, ofV, ofA, ofS, put_mk, ky_inj, pureOp, readOp, pFA, pFA1, pFA2, rLd, rdAB_row, oneCell_one, hget_same, hget_hset_ite, List.length_cons, List.length_nil, List.getElem?_cons_zero, List.getElem?_cons_succ, List.drop_zero, List.drop_succ_cons, List.take_succ_cons, List.take_zero, Nat.zero_add, Nat.reduceAdd, Nat.reduceLT, Nat.reduceLeDiff, Nat.reduceEqDiff, Nat.reduceSub, Nat.add_eq, loadA_w, loadW_s, heavyCall, pNil, stepOp, stHeavy, stV_mk, stO_mk, T.get_n, T.set_n, T.set_e, Nat.reduceDiv, Nat.reduceMod, sz38, ag38, Tryz.underlying38, Tryz.underlying86, stepAny, wantedA_none, rCall, rLen, rLen1_sl, lenA, mx, aBuiltin] <;> rfl)))
  refine r_loopE (j := 0) (R := fun fr s' => ∃ lc tt h3, fr = ⟨F, lc, 124, tt, [], .no⟩ ∧ s' = ⟨h3, F + 1⟩ ∧ lc ≤ 100000000000000000000001000 ∧ 21 ≤ lc ∧ Low F h h3 ∧ hget h3 (ky F 19) = some (mkRow [l, .slice (ky F 7) 0 0 R.length (some R.length), .slice (ky F 10) 0 0 R.length (some R.length), .slice (ky F 13) 0 0 R.length (some R.length), .slice (ky F 15) 0 0 w.toNat (some w.toNat), .slice (ky F 17) 0 0 w.toNat (some w.toNat)] 0) ∧ hget h3 (ky F 15) = some (aRow (ints (List.replicate w.toNat 0))) ∧ hget h3 (ky F 17) = some (aRow (ints (hiL w.toNat w.toNat))) ∧ hget h3 (ky F 7) = some (aRow (bools (List.replicate R.length false))) ∧ hget h3 (ky F 10) = some (aRow (bools (List.replicate R.length false))) ∧ hget h3 (ky F 13) = some (aRow (bools (List.replicate R.length false))) ∧ tt.get 0 = some l ∧ tt.get 2 = some fu ∧ tt.get 3 = some e ∧ tt.get 4 = some (.bool whole) ∧ tt.get 11 = some (.ptr (ky F 19) 0)) (I := fun nn fr s' => ∃ lc tt h3 i, fr = ⟨F, lc, 124, tt, [], .no⟩ ∧ s' = ⟨h3, F + 1⟩ ∧ i ≤ w.toNat ∧ nn = w.toNat - i ∧ lc + nn * 1000 ≤ 100000000000000000000000000 ∧ 21 ≤ lc ∧ Low F h h3 ∧ (hget h3 (ky F 19) = some (mkRow [l, .slice (ky F 7) 0 0 R.length (some R.length), .slice (ky F 10) 0 0 R.length (some R.length), .slice (ky F 13) 0 0 R.length (some R.length), .slice (ky F 15) 0 0 w.toNat (some w.toNat), .slice (ky F 17) 0 0 w.toNat (some w.toNat)] 0) ∧ hget h3 (ky F 15) = some (aRow (ints (List.replicate w.toNat 0))) ∧ hget h3 (ky F 17) = some (aRow (ints (hiL w.toNat i))) ∧ hget h3 (ky F 7) = some (aRow (bools (List.replicate R.length false))) ∧ hget h3 (ky F 10) = some (aRow (bools (List.replicate R.length false))) ∧ hget h3 (ky F 13) = some (aRow (bools (List.replicate R.length false)))) ∧ tt.get 0 = some l ∧ tt.get 2 = some fu ∧ tt.get 3 = some e ∧ tt.get 4 = some (.bool whole) ∧ tt.get 11 = some (.ptr (ky F 19) 0) ∧ tt.get 42 = some (.int .i64 (w.toNat : Int)) ∧ tt.get 43 = some (.int .i64 (i : Int))) (n := w.toNat) ?_ ?_ ?_ ?_
  · omega
  · refine ⟨_, _, _, 0, rfl, rfl, Nat.zero_le _, (Nat.sub_zero _).symm, by omega, by omega, by repeat (first | exact Low.refl F h | refine Low.set ?_ (Nat.le_refl F)), ⟨by simp only [hget_hset_ite, ky_inj, Nat.reduceEqDiff, ↓reduceIte], by simp only [hget_hset_ite, ky_inj, Nat.reduceEqDiff, ↓reduceIte], by rw [hiL_0]; simp only [hget_hset_ite, ky_inj, Nat.reduceEqDiff, ↓reduceIte], by simp only [hget_hset_ite, ↓reduceIte], by simp only [hget_hset_ite, ky_inj, Nat.reduceEqDiff, ↓reduceIte], by simp only [hget_hset_ite, ky_inj, Nat.reduceEqDiff, ↓reduceIte]⟩, sd8, sd8, sd8, sd8, sd8, sd8, sd8⟩
  · rintro nn fr s' ⟨lc, tt, h3, i, rfl, rfl, hi, rfl, hlc, hl21, hlow, ⟨hb, r15, r17, r7, r10, r13⟩, u0, u2, u3, u4, u11, u42, u43⟩
    by_cases hil : i < w.toNat
    rotate_left
    · repeat' (first | refine st ?_ | ((with_reducible apply r_drawL); (focus kernel_rfl); (focus kernel_rfl); (focus (exact sd1))) | ((with_reducible (first | apply r_any | apply r_cond)); focus (simp only [↓reduceIte, clsOf, Fr.ev, put_mk, pureOp, pBin, binA, intOp_lss, Nat.reduceLT, binA, stepOp, stV_mk, stepAny, wantedA_none, u42, u43, lt_f hil] <;> rfl)))
      have hend : i = w.toNat := by omega
      subst hend
      exact exit_at ⟨_, _, _, rfl, rfl, by omega, by omega, hlow, hb, r15, r17, r7, r10, r13, sd8, sd8, sd8, sd8, sd8⟩
    have w1 := fun (h3 : Heap) => wr_a (h := h3) (id := ky F 17) (xs := ints (hiL w.toNat i)) (j := i) (v := .int .i64 (-1)) (by rw [ints_len, hiL_len]; exact hil) rfl
    rw [ints_set, hiL_set] at w1
    have ad := intOp_add (P := Tryz.prog) (t := 3) (show inR ((i : Int) + 1) by unfold inR; omega)
    repeat' (first | refine st ?_ | ((with_reducible apply r_drawL); (focus kernel_rfl); (focus kernel_rfl); (focus (exact sd1))) | ((with_reducible (first | apply r_any | apply r_cond)); focus (simp only [↓reduceIte, clsOf, Fr.ev, ofV, ofA, ofS, AV.cells, put_mk, put_none, pureOp, readOp, pFA, pFA1, pFA2, rLd, rdAB_row, oneCell_one, pBin, binA, intOp_lss, List.length_cons, List.length_nil, List.getElem?_cons_zero, List.getElem?_cons_succ, List.drop_zero, List.drop_succ_cons, List.take_succ_cons, List.take_zero, Nat.zero_add, Nat.reduceAdd, Nat.reduceLT, Nat.reduceLeDiff, Nat.reduceEqDiff, Nat.add_eq, loadA_w, loadW_s, aSt_w, stOut_s, actOp, pNil, binA, Int.reduceNeg, stepOp, stHeavy, stV_mk, stO_mk, sz2, sz38, ag38, Tryz.underlying86, stepAny, wantedA_none, Tget_set, u42, u43, lt_t hil, hb, r17, pIA_s Tryz.underlying38 sz2 hil, w1, ad] <;> rfl)))
    exact r_rq_n (k := w.toNat - (i + 1)) (by omega) ⟨_, _, _, i + 1, rfl, rfl, by omega, rfl, by omega, by omega, hlow.set (Nat.le_refl F), ⟨by simp only [hget_hset_ite, ky_inj, Nat.reduceEqDiff, ↓reduceIte]; exact hb, by simp only [hget_hset_ite, ky_inj, Nat.reduceEqDiff, ↓reduceIte]; exact r15, by simp only [hget_hset_ite, ↓reduceIte], by simp only [hget_hset_ite, ky_inj, Nat.reduceEqDiff, ↓reduceIte]; exact r7, by simp only [hget_hset_ite, ky_inj, Nat.reduceEqDiff, ↓reduceIte]; exact r10, by simp only [hget_hset_ite, ky_inj, Nat.reduceEqDiff, ↓reduceIte]; exact r13⟩, sd8, sd8, sd8, sd8, sd8, sd8, sd8⟩
  rintro fr s' ⟨lc0, tt, h1, rfl, rfl, hlc0, hl21, hlow1, hb1, r15, r17, r7, r10, r13, u0, u2, u3, u4, u11⟩
  repeat' (first | refine st ?_ | ((with_reducible apply r_drawL); (focus kernel_rfl); (focus kernel_rfl); (focus (exact sd1))) | ((with_reducible (first | apply r_any | apply r_cond)); focus (simp only [↓reduceIte, clsOf, clsCall, Fr.ev, ofV, ofA, ofS, put_mk, pureOp, readOp, List.getElem?_cons_zero, Nat.reduceLT, stepOp, stV_mk, stepAny, wantedA_none, rCall, rLen, Tget_set, lF] <;> rfl)))
  refine r_loopE (j := 2) (R := fun fr s' => ∃ lc tt h3, fr = ⟨F, lc, 124, tt, [], .no⟩ ∧ s' = ⟨h3, F + 1⟩ ∧ lc ≤ 200000000000000000000001000 ∧ 21 ≤ lc ∧ Low F h h3 ∧ (∀ c, c ≠ 7 → hget h3 (ky F c) = hget h1 (ky F c)) ∧ hget h3 (ky F 7) = some (aRow (bools (fullL R.length full))) ∧ tt.get 0 = some l ∧ tt.get 2 = some fu ∧ tt.get 3 = some e ∧ tt.get 4 = some (.bool whole) ∧ tt.get 11 = some (.ptr (ky F 19) 0)) (I := fun nn fr s' => ∃ lc tt h3 i, fr = ⟨F, lc, 124, tt, [], .no⟩ ∧ s' = ⟨h3, F + 1⟩ ∧ i ≤ full.length ∧ nn = full.length - i ∧ lc + nn * 1000 ≤ 200000000000000000000000000 ∧ 21 ≤ lc ∧ Low F h h3 ∧ (∀ c, c ≠ 7 → hget h3 (ky F c) = hget h1 (ky F c)) ∧ hget h3 (ky F 7) = some (aRow (bools (fullL R.length (full.take i)))) ∧ tt.get 0 = some l ∧ tt.get 2 = some fu ∧ tt.get 3 = some e ∧ tt.get 4 = some (.bool whole) ∧ tt.get 11 = some (.ptr (ky F 19) 0) ∧ tt.get 53 = some fu ∧ tt.get 54 = some (.int .i64 (full.length : Int)) ∧ tt.get 55 = some (.int .i64 (i : Int))) (n := full.length) ?_ ?_ ?_ ?_
  · omega
  · exact ⟨_, _, _, 0, rfl, rfl, Nat.zero_le _, (Nat.sub_zero _).symm, by omega, by omega, hlow1, fun c _ => rfl, r7, sd8, sd8, sd8, sd8, sd8, sd8, sd8, sd8⟩
  · rintro nn fr s' ⟨lc, tt, h3, i, rfl, rfl, hi, rfl, hlc, hl21, hlow, hq, x7, u0, u2, u3, u4, u11, u53, u54, u55⟩
    by_cases hil : i < full.length
    rotate_left
    · repeat' (first | refine st ?_ | ((with_reducible apply r_drawL); (focus kernel_rfl); (focus kernel_rfl); (focus (exact sd1))) | ((with_reducible (first | apply r_any | apply r_cond)); focus (simp only [↓reduceIte, clsOf, Fr.ev, put_mk, pureOp, pBin, binA, intOp_lss, Nat.reduceLT, binA, stepOp, stV_mk, stepAny, wantedA_none, u54, u55, lt_f hil] <;> rfl)))
      have hend : full.take i = full := List.take_of_length_le (by omega)
      rw [hend] at x7
      exact exit_at ⟨_, _, _, rfl, rfl, by omega, by omega, hlow, hq, x7, sd8, sd8, sd8, sd8, sd8⟩
    obtain ⟨v, hv⟩ : ∃ v, full[i]? = some v := ⟨full[i], by simp⟩
    obtain ⟨vb, vo, veo, vcap, evf, hbl, rv⟩ := int_at hw hF (hlow.same hw) hv
    rw [evf] at u53
    have ad := intOp_add (P := Tryz.prog) (t := 3) (show inR ((i : Int) + 1) by unfold inR; omega)
    have hb3 := (hq 19 (by decide)).trans hb1
    have hft : fullL R.length (full.take (i + 1)) = (if 0 ≤ v ∧ v < (R.length : Int) then (fullL R.length (full.take i)).set v.toNat true else fullL R.length (full.take i)) := by unfold fullL; rw [foldl_take hv]
    by_cases hnm : 0 ≤ v ∧ v < (R.length : Int)
    · rw [if_pos hnm] at hft
      obtain ⟨s, rfl⟩ : ∃ s : Nat, v = s := ⟨v.toNat, by omega⟩
      have hsn : s < R.length := by omega
      have hf : (decide (0 ≤ (s : Int)) && decide ((s : Int) < (R.length : Int))) = true := by
        rw [Bool.and_eq_true, decide_eq_true_iff, decide_eq_true_iff]
        exact hnm
      have ws := fun (h3 : Heap) => wr_a (h := h3) (id := ky F 7) (xs := bools (fullL R.length (full.take i))) (j := s) (v := .bool true) (by rw [bools_len]; unfold fullL; rw [fullL_len, List.length_replicate]; exact hsn) rfl
      rw [bools_set] at ws
      rw [Int.toNat_natCast] at hft
      repeat' (first | refine st ?_ | ((with_reducible apply r_drawL); (focus kernel_rfl); (focus kernel_rfl); (focus (exact sd1))) | ((with_reducible (first | apply r_any | apply r_cond)); focus (simp only [↓reduceIte, clsOf, clsCall, Fr.ev, evs, ofV, ofA, ofS, AV.cells, put_mk, put_none, pureOp, readOp, pFA, pFA1, pFA2, rLd, rdAB_row, oneCell_one, pBin, binA, intOp_lss, List.length_cons, List.length_nil, List.getElem?_cons_zero, List.getElem?_cons_succ, List.drop_zero, List.drop_succ_cons, List.take_succ_cons, List.take_zero, Nat.zero_add, Nat.reduceAdd, Nat.reduceLT, Nat.reduceLeDiff, Nat.reduceEqDiff, Nat.add_eq, loadA_w, loadW_s, aSt_w, stOut_s, callTo_s, heavyCall, target, actOp, List.nil_append, List.append_nil, pNil, binA, stepOp, stHeavy, stV_mk, stO_mk, sz2, ag2, sz4, sz83, ag83, Tryz.underlying86, stepAny, wantedA_none, rCall, rLen, Tget_set, u53, u54, u55, lL, lt_t hil, pIA_s Tryz.underlying38 sz2 hil, rv, k_named, hf, hb3, pIA_s Tryz.underlying83 sz4 hsn, x7, ws, ad] <;> rfl)))
      exact r_rq_n (k := full.length - (i + 1)) (by omega) ⟨_, _, _, i + 1, rfl, rfl, by omega, rfl, by omega, by omega, hlow.set (Nat.le_refl F), fun c hc => by rw [hget_hset, if_neg (by rw [ky_inj]; exact hc)]; exact hq c hc, by rw [hget_hset, if_pos rfl, hft], sd8, (by first | (simp only [Tget_set, Nat.reduceEqDiff, ↓reduceIte, u2, evf] <;> rfl) | rfl), sd8, sd8, sd8, (by first | (simp only [Tget_set, Nat.reduceEqDiff, ↓reduceIte, u53, evf] <;> rfl) | rfl), sd8, sd8⟩
    · rw [if_neg hnm] at hft
      have hf : (decide (0 ≤ v) && decide (v < (R.length : Int))) = false := by
        rw [Bool.and_eq_false_iff, decide_eq_false_iff_not, decide_eq_false_iff_not]
        omega
      repeat' (first | refine st ?_ | ((with_reducible apply r_drawL); (focus kernel_rfl); (focus kernel_rfl); (focus (exact sd1))) | ((with_reducible (first | apply r_any | apply r_cond)); focus (simp only [↓reduceIte, clsOf, clsCall, Fr.ev, evs, ofV, ofA, ofS, put_mk, pureOp, readOp, rLd, oneCell_one, pBin, binA, intOp_lss, List.getElem?_cons_zero, Nat.reduceLT, Nat.reduceEqDiff, loadA_w, loadW_s, callTo_s, heavyCall, target, List.nil_append, List.append_nil, binA, stepOp, stHeavy, stV_mk, stO_mk, sz2, ag2, stepAny, wantedA_none, rCall, rLen, Tget_set, u53, u54, u55, lL, lt_t hil, pIA_s Tryz.underlying38 sz2 hil, rv, k_named, hf, ad] <;> rfl)))
      exact r_rq_n (k := full.length - (i + 1)) (by omega) ⟨_, _, _, i + 1, rfl, rfl, by omega, rfl, by omega, by omega, hlow, hq, by rw [hft]; exact x7, sd8, (by first | (simp only [Tget_set, Nat.reduceEqDiff, ↓reduceIte, u2, evf] <;> rfl) | rfl), sd8, sd8, sd8, (by first | (simp only [Tget_set, Nat.reduceEqDiff, ↓reduceIte, u53, evf] <;> rfl) | rfl), sd8, sd8⟩
  rintro fr s' ⟨lc2, tt, h2, rfl, rfl, hlc2, hl22, hlow2, hq2, x7, u0, u2, u3, u4, u11⟩
  obtain ⟨b0, hb0⟩ : ∃ b0, b0 = beginB R.length w.toNat full := ⟨_, rfl⟩
  have gd0 : Gd w.toNat R.length b0 := by rw [hb0]; exact Gd.begin _ _ _
  have hb2 := (hq2 19 (by decide)).trans hb1
  have y15 : hget h2 (ky F 15) = some (aRow (ints b0.ph)) := by rw [hq2 15 (by decide), r15, hb0]; rfl
  have y17 : hget h2 (ky F 17) = some (aRow (ints (hsP b0))) := by rw [hq2 17 (by decide), r17, hb0, hsP_begin, hiL_N]
  have y7 : hget h2 (ky F 7) = some (aRow (bools b0.fu)) := by rw [x7, hb0]; rfl
  have y10 : hget h2 (ky F 10) = some (aRow (bools b0.ta)) := by rw [hq2 10 (by decide), r10, hb0]; rfl
  have y13 : hget h2 (ky F 13) = some (aRow (bools b0.re)) := by rw [hq2 13 (by decide), r13, hb0]; rfl
  repeat' (first | refine st ?_ | ((with_reducible apply r_drawL); (focus kernel_rfl); (focus kernel_rfl); (focus (exact sd1))) | ((with_reducible (first | apply r_any | apply r_cond)); focus (simp only [↓reduceIte, clsOf, clsCall, Fr.ev, ofV, ofA, ofS, put_mk, pureOp, readOp, List.getElem?_cons_zero, Nat.reduceLT, stepOp, stV_mk, stepAny, wantedA_none, rCall, rLen, Tget_set, lD] <;> rfl)))
  refine r_loopE (j := 4) (R := fun fr s' => ∃ lc tt h3 g out co, fr = ⟨F, lc, 124, tt, [], .no⟩ ∧ s' = ⟨h3, g⟩ ∧ F + 1 ≤ g ∧ g ≤ F + 1 + ds.length ∧ lc ≤ 300000000000000000000001000 ∧ Low F h h3 ∧ hget h3 (ky F 19) = some (mkRow [l, .slice (ky F 7) 0 0 R.length (some R.length), .slice (ky F 10) 0 0 R.length (some R.length), .slice (ky F 13) 0 0 R.length (some R.length), .slice (ky F 15) 0 0 w.toNat (some w.toNat), .slice (ky F 17) 0 0 w.toNat (some w.toNat)] 0) ∧ hget h3 (ky F 15) = some (aRow (ints (audT R W b0 ds ds.length).2.ph)) ∧ hget h3 (ky F 17) = some (aRow (ints (hsP (audT R W b0 ds ds.length).2))) ∧ hget h3 (ky F 7) = some (aRow (bools (audT R W b0 ds ds.length).2.fu)) ∧ hget h3 (ky F 10) = some (aRow (bools (audT R W b0 ds ds.length).2.ta)) ∧ hget h3 (ky F 13) = some (aRow (bools (audT R W b0 ds ds.length).2.re)) ∧ GrA h3 F co 2 out (pL (audT R W b0 ds ds.length).1) ∧ 20 ≤ co ∧ co < lc ∧ tt.get 0 = some l ∧ tt.get 2 = some fu ∧ tt.get 3 = some e ∧ tt.get 4 = some (.bool whole) ∧ tt.get 11 = some (.ptr (ky F 19) 0) ∧ tt.get 15 = some out) (I := fun nn fr s' => ∃ lc tt h3 g i out co, fr = ⟨F, lc, 124, tt, [], .no⟩ ∧ s' = ⟨h3, g⟩ ∧ F + 1 ≤ g ∧ g ≤ F + 1 + i ∧ i ≤ ds.length ∧ nn = ds.length - i ∧ lc + nn * 1000 ≤ 300000000000000000000000000 ∧ Low F h h3 ∧ (hget h3 (ky F 19) = some (mkRow [l, .slice (ky F 7) 0 0 R.length (some R.length), .slice (ky F 10) 0 0 R.length (some R.length), .slice (ky F 13) 0 0 R.length (some R.length), .slice (ky F 15) 0 0 w.toNat (some w.toNat), .slice (ky F 17) 0 0 w.toNat (some w.toNat)] 0) ∧ hget h3 (ky F 15) = some (aRow (ints (audT R W b0 ds i).2.ph)) ∧ hget h3 (ky F 17) = some (aRow (ints (hsP (audT R W b0 ds i).2))) ∧ hget h3 (ky F 7) = some (aRow (bools (audT R W b0 ds i).2.fu)) ∧ hget h3 (ky F 10) = some (aRow (bools (audT R W b0 ds i).2.ta)) ∧ hget h3 (ky F 13) = some (aRow (bools (audT R W b0 ds i).2.re))) ∧ GrA h3 F co 2 out (pL (audT R W b0 ds i).1) ∧ 20 ≤ co ∧ co < lc ∧ tt.get 0 = some l ∧ tt.get 2 = some fu ∧ tt.get 3 = some e ∧ tt.get 4 = some (.bool whole) ∧ tt.get 11 = some (.ptr (ky F 19) 0) ∧ tt.get 15 = some out ∧ tt.get 70 = some e ∧ tt.get 71 = some (.int .i64 (ds.length : Int)) ∧ tt.get 72 = some (.int .i64 (i : Int))) (n := ds.length) ?_ ?_ ?_ ?_
  · omega
  · exact ⟨_, _, _, F + 1, 0, _, 20, rfl, rfl, Nat.le_refl _, Nat.le_refl _, Nat.zero_le _, (Nat.sub_zero _).symm, by omega, hlow2, by rw [audT_0]; exact ⟨hb2, y15, y17, y7, y10, y13⟩, by rw [audT_0]; exact GrA.nil, by omega, by omega, sd8, sd8, sd8, sd8, sd8, sd8, sd8, sd8, sd8⟩
  · rintro nn fr s' ⟨lc, tt, h3, g, i, out, co, rfl, rfl, hg1, hg2, hi, rfl, hlc, hlow, ⟨hb3, r15, r17, r7, r10, r13⟩, hO, hco0, hco, u0, u2, u3, u4, u11, u15, u70, u71, u72⟩
    have hS := hlow.same hw
    by_cases hil : i < ds.length
    rotate_left
    · repeat' (first | refine st ?_ | ((with_reducible apply r_drawL); (focus kernel_rfl); (focus kernel_rfl); (focus (exact sd1))) | ((with_reducible (first | apply r_any | apply r_cond)); focus (simp only [↓reduceIte, clsOf, Fr.ev, put_mk, pureOp, pBin, binA, intOp_lss, Nat.reduceLT, binA, stepOp, stV_mk, stepAny, wantedA_none, u71, u72, lt_f hil] <;> rfl)))
      have hend : i = ds.length := by omega
      subst hend
      exact exit_at ⟨_, _, _, g, _, co, rfl, rfl, hg1, hg2, by omega, hlow, hb3, r15, r17, r7, r10, r13, hO, hco0, by omega, sd8, sd8, sd8, sd8, sd8, sd8⟩
    obtain ⟨d, hd⟩ : ∃ d, ds[i]? = some d := ⟨ds[i], by simp⟩
    obtain ⟨gd, hfl1, _⟩ := audT_gd (R := R) (W := W) (ds := ds) gd0 i (Nat.le_of_lt hil)
    obtain ⟨eb, oe, eoe, cape, ee, hbe, rd0, rd1, rd2⟩ := ev_at hw hD hS hd
    rw [ee] at u3 u70
    have ad := intOp_add (P := Tryz.prog) (t := 3) (show inR ((i : Int) + 1) by unfold inR; omega)
    have lift : ∀ c, c ≤ 1267650600228229401496703205375 → ky F c < ky g 0 := fun c hc => Nat.lt_of_lt_of_le (ky_next F c hc) (ky_mono hg1)
    repeat' (first | refine st ?_ | ((with_reducible apply r_drawL); (focus kernel_rfl); (focus kernel_rfl); (focus (exact sd1))) | ((with_reducible (first | apply r_any | apply r_cond)); focus (simp only [↓reduceIte, clsOf, clsCall, newBlk, allocOp, Fr.ev, evs, nVar, AV.cells, rowOf_mk, put_mk, put_none, upd_mk, keyOf_mk, pureOp, readOp, rLd, rdAB_row, someAgg_s, hget_same, pBin, binA, intOp_lss, List.length_cons, List.length_nil, List.drop_zero, List.take_succ_cons, List.take_zero, Nat.zero_add, Nat.reduceAdd, Nat.reduceLT, Nat.reduceLeDiff, Nat.reduceEqDiff, and_self, loadA_w, loadW_a, aSt_w, stOut_s, wrAB_row, ovr, List.set_cons_zero, List.set_cons_succ, allCell, ic_i, callTo_s, heavyCall, target, actOp, List.nil_append, List.append_nil, binA, stepOp, stHeavy, stV_mk, stB_mk, stO_mk, sz89, ag89, zr89, tg89, stepAny, wantedA_none, Tget_set, u70, u71, u72, lt_t hil, pIA_s Tryz.underlying39 sz89 hil, rd0] <;> rfl)))
    have low4 : Low F h (hset (hset h3 (ky F (lc + 1 + 3)) (mkRow [.int .i64 0, .int .i64 0, .int .i64 0] 0)) (ky F (lc + 1 + 3)) (mkRow [.int .i64 d.pick, .int .i64 d.seq, .int .i64 d.phase] 0)) := (hlow.set (Nat.le_refl F)).set (Nat.le_refl F)
    have mH : ∀ c, c ≠ lc + 1 + 3 → hget (hset (hset h3 (ky F (lc + 1 + 3)) (mkRow [.int .i64 0, .int .i64 0, .int .i64 0] 0)) (ky F (lc + 1 + 3)) (mkRow [.int .i64 d.pick, .int .i64 d.seq, .int .i64 d.phase] 0)) (ky F c) = hget h3 (ky F c) := fun c hc => by rw [hget_hset, if_neg (by rw [ky_inj]; exact hc), hget_hset, if_neg (by rw [ky_inj]; exact hc)]
    have hCA : CA (hset (hset h3 (ky F (lc + 1 + 3)) (mkRow [.int .i64 0, .int .i64 0, .int .i64 0] 0)) (ky F (lc + 1 + 3)) (mkRow [.int .i64 d.pick, .int .i64 d.seq, .int .i64 d.phase] 0)) g (.ptr (ky F 19) 0) l (bP (audT R W b0 ds i).2) := ⟨_, _, _, _, _, _, rfl, lift _ (by omega), (mH 19 (by omega)).trans hb3, (RowA.new (by rw [ints_len]; exact gd.ph.symm) ((mH 15 (by omega)).trans r15)).b (lift _ (by omega)), (RowA.new (by rw [ints_len]; exact (hsP_len gd).symm) ((mH 17 (by omega)).trans r17)).b (lift _ (by omega)), (RowA.new (by rw [bools_len]; exact gd.fu.symm) ((mH 7 (by omega)).trans r7)).b (lift _ (by omega)), (RowA.new (by rw [bools_len]; exact gd.ta.symm) ((mH 10 (by omega)).trans r10)).b (lift _ (by omega)), (RowA.new (by rw [bools_len]; exact gd.re.symm) ((mH 13 (by omega)).trans r13)).b (lift _ (by omega))⟩
    refine r_callC (S := SC R W l) (f := 34) (by first | rfl | (simp only [wantedA_none, Tget_set])) (by simp only [callOuts, callTo_s, target, evs, Fr.ev, Tget_set, Nat.reduceEqDiff, ↓reduceIte, List.nil_append, List.append_nil]; exact kc_miss rfl) ?_ ?_
    · exact breaksQ hCA gd (hL.same (low4.same hw)) hroom hn
    intro oo ho
    obtain ⟨r, hr⟩ : ∃ r, ruleB R W (audT R W b0 ds i).2 d = r := ⟨_, rfl⟩
    have ho2 : oo = .val (.int .i64 r) ⟨(hset (hset h3 (ky F (lc + 1 + 3)) (mkRow [.int .i64 0, .int .i64 0, .int .i64 0] 0)) (ky F (lc + 1 + 3)) (mkRow [.int .i64 d.pick, .int .i64 d.seq, .int .i64 d.phase] 0)), g⟩ := by rw [← hr, ← rule_bP gd]; exact ho _ hCA
    subst ho2
    refine ⟨_, by simp only [put_mk, Nat.reduceLT, ↓reduceIte] <;> rfl, ?_⟩
    by_cases hr0 : r = 0
    rotate_left
    · have e1 : (r != 0) = true := bne_iff_ne.2 hr0
      obtain ⟨a1, a2⟩ := audT_no (R := R) (W := W) (b := b0) hd (by rw [hr]; exact hr0)
      rw [hr] at a1
      obtain ⟨h5, ap, hO5, m5⟩ := GrA.app (P := Tryz.prog) (t := 45) (t2 := 45) (k := lc + 13 + 5) (f := g) (h := hset (hset (hset h3 (ky F (lc + 1 + 3)) (mkRow [.int .i64 0, .int .i64 0, .int .i64 0] 0)) (ky F (lc + 1 + 3)) (mkRow [.int .i64 d.pick, .int .i64 d.seq, .int .i64 d.phase] 0)) (ky F (lc + 13 + 4)) (mkRow [.int .i64 r, .int .i64 (i : Int)] 2)) (N := pL [(r, (i : Int))]) (((hO.set (by omega)).set (by omega)).set (by omega)) Tryz.underlying45 Tryz.underlying45 sz92 byF zoF (src_21 (by rw [hget_hset, if_pos rfl])) (by simp [pL]) (by decide) (fun x hx => by obtain ⟨p, _, rfl⟩ := List.mem_map.1 hx; rfl) rfl (by rw [pL_len, pL_len]; simp only [List.length_cons, List.length_nil]; omega) (by decide)
      have g5 : ∀ c, c ≠ lc + 13 + 4 → c ≠ lc + 13 + 5 → c ≠ co → hget h5 (ky F c) = hget (hset (hset h3 (ky F (lc + 1 + 3)) (mkRow [.int .i64 0, .int .i64 0, .int .i64 0] 0)) (ky F (lc + 1 + 3)) (mkRow [.int .i64 d.pick, .int .i64 d.seq, .int .i64 d.phase] 0)) (ky F c) := fun c q1 q2 q3 => by rw [m5 _ (by rw [Ne, ky_inj]; exact q2) (by rw [Ne, ky_inj]; exact q3), hget_hset, if_neg (by rw [ky_inj]; exact q1)]
      have low5 : Low F h h5 := fun j hj => (m5 j (by have := ky_le F (lc + 13 + 5); omega) (by have := ky_le F co; omega)).trans ((show Low F h (hset (hset (hset h3 (ky F (lc + 1 + 3)) (mkRow [.int .i64 0, .int .i64 0, .int .i64 0] 0)) (ky F (lc + 1 + 3)) (mkRow [.int .i64 d.pick, .int .i64 d.seq, .int .i64 d.phase] 0)) (ky F (lc + 13 + 4)) (mkRow [.int .i64 r, .int .i64 (i : Int)] 2)) from by repeat (first | exact hlow | refine Low.set ?_ (Nat.le_refl F))) j hj)
      have mv : ∀ c, c < 20 → hget h5 (ky F c) = hget h3 (ky F c) := fun c hc => (g5 c (by omega) (by omega) (by omega)).trans (mH c (by omega))
      repeat' (first | refine st ?_ | ((with_reducible apply r_drawL); (focus kernel_rfl); (focus kernel_rfl); (focus (exact sd1))) | ((with_reducible (first | apply r_any | apply r_cond)); focus (simp only [↓reduceIte, clsOf, clsCall, newBlk, allocOp, Fr.ev, evParts, ofV, ofA, ofS, AV.cells, put_mk, upd_mk, keyOf_mk, pureOp, someAgg_s, pBin, binA, intOp_neq, List.length_cons, List.length_nil, List.getElem?_cons_zero, List.getElem?_cons_succ, Nat.zero_add, Nat.reduceAdd, Nat.reduceLT, Nat.reduceEqDiff, heavyCall, pBuild, pBuild2, fieldsOk, buildParts, binA, stepOp, stHeavy, stV_mk, stB_mk, stO_mk, sz3, Tryz.underlying45, zr92, Tryz.underlying92, stepAny, wantedA_none, Tget_set, u72, e1, listC_eq, fill2_0, fill2_1, b12, b22, nBS_F1, aBuiltin, aApp, aApp2, outOf, ap, List.length_cons, List.length_nil, Nat.reduceAdd, someAgg_s, ad] <;> rfl)))
      exact r_rq_n (k := ds.length - (i + 1)) (by omega) ⟨_, _, _, g, i + 1, _, lc + 13 + 5, rfl, rfl, hg1, by omega, by omega, rfl, by omega, low5, by rw [a2]; exact ⟨(mv 19 (by decide)).trans hb3, (mv 15 (by decide)).trans r15, (mv 17 (by decide)).trans r17, (mv 7 (by decide)).trans r7, (mv 10 (by decide)).trans r10, (mv 13 (by decide)).trans r13⟩, by rw [a1, pL_app]; exact hO5, by omega, by omega, sd8, sd8, (by first | (simp only [Tget_set, Nat.reduceEqDiff, ↓reduceIte, u3, ee] <;> rfl) | rfl), sd8, sd8, sd8, (by first | (simp only [Tget_set, Nat.reduceEqDiff, ↓reduceIte, u70, ee] <;> rfl) | rfl), sd8, sd8⟩
    subst hr0
    obtain ⟨a1, a2⟩ := audT_go (R := R) (W := W) (b := b0) hd hr
    have hns := rule0 hr
    obtain ⟨dp, dq, df⟩ := d
    simp only at rd0 rd1 rd2 hns
    obtain ⟨j, rfl⟩ : ∃ j : Nat, dp = j := ⟨dp.toNat, by omega⟩
    obtain ⟨s, rfl⟩ : ∃ s : Nat, dq = s := ⟨dq.toNat, by omega⟩
    have hj : j < w.toNat := by rw [← gd.ph]; omega
    have hs : s < R.length := by omega
    repeat' (first | refine st ?_ | ((with_reducible apply r_drawL); (focus kernel_rfl); (focus kernel_rfl); (focus (exact sd1))) | ((with_reducible (first | apply r_any | apply r_cond)); focus (simp only [↓reduceIte, clsOf, clsCall, Fr.ev, evs, ofV, ofA, ofS, put_mk, pureOp, readOp, rLd, rdAB_row, someAgg_s, hget_same, pBin, binA, intOp_neq, List.length_cons, List.length_nil, List.drop_zero, List.take_succ_cons, List.take_zero, Nat.zero_add, Nat.reduceAdd, Nat.reduceLT, Nat.reduceLeDiff, Nat.reduceEqDiff, loadA_w, loadW_a, callTo_s, heavyCall, target, List.nil_append, List.append_nil, binA, bne_self_eq_false, stepOp, stHeavy, stV_mk, sz89, ag89, stepAny, wantedA_none, Tget_set] <;> rfl)))
    have kf : (ky F 19 = ky F 15) = False ∧ (ky F 19 = ky F 17) = False ∧ (ky F 19 = ky F 10) = False ∧ (ky F 19 = ky F 13) = False ∧ (ky F 15 = ky F 19) = False ∧ (ky F 15 = ky F 17) = False ∧ (ky F 15 = ky F 10) = False ∧ (ky F 15 = ky F 13) = False ∧ (ky F 17 = ky F 19) = False ∧ (ky F 17 = ky F 15) = False ∧ (ky F 17 = ky F 10) = False ∧ (ky F 17 = ky F 13) = False ∧ (ky F 10 = ky F 19) = False ∧ (ky F 10 = ky F 15) = False ∧ (ky F 10 = ky F 17) = False ∧ (ky F 10 = ky F 13) = False ∧ (ky F 13 = ky F 19) = False ∧ (ky F 13 = ky F 15) = False ∧ (ky F 13 = ky F 17) = False ∧ (ky F 13 = ky F 10) = False := by refine ⟨?_, ?_, ?_, ?_, ?_, ?_, ?_, ?_, ?_, ?_, ?_, ?_, ?_, ?_, ?_, ?_, ?_, ?_, ?_, ?_⟩ <;> exact eq_false (by rw [ky_inj]; decide)
    have hDo : DoC (hset (hset h3 (ky F (lc + 1 + 3)) (mkRow [.int .i64 0, .int .i64 0, .int .i64 0] 0)) (ky F (lc + 1 + 3)) (mkRow [.int .i64 (j : Int), .int .i64 (s : Int), .int .i64 df] 0)) (.ptr (ky F 19) 0) l (ky F 19) (ky F 15) (ky F 17) (ky F 10) (ky F 13) (.slice (ky F 7) 0 0 R.length (some R.length)) R.length w.toNat (audT R W b0 ds i).2.ph (hsP (audT R W b0 ds i).2) (audT R W b0 ds i).2.ta (audT R W b0 ds i).2.re := ⟨rfl, (mH 19 (by omega)).trans hb3, (mH 15 (by omega)).trans r15, (mH 17 (by omega)).trans r17, (mH 10 (by omega)).trans r10, (mH 13 (by omega)).trans r13⟩
    refine r_callC (S := SC R W l) (f := 35) (by first | rfl | (simp only [wantedA_none, Tget_set])) (by simp only [callOuts, callTo_s, target, evs, Fr.ev, Tget_set, Nat.reduceEqDiff, ↓reduceIte, List.nil_append, List.append_nil]; exact kc_miss rfl) ?_ ?_
    · exact doQ (lift _ (by omega)) (lift _ (by omega)) (lift _ (by omega)) (lift _ (by omega)) (lift _ (by omega)) kf hDo gd hj hs
    intro oo ho
    obtain ⟨v, h5, rfl, q1, q2, q4, q5, q6⟩ := ho _ _ _ _ _ _ _ _ _ _ _ _ hDo
    refine ⟨_, by simp only [put_mk, Nat.reduceLT, ↓reduceIte] <;> rfl, ?_⟩
    have m5 : ∀ c, c ≤ 1267650600228229401496703205375 → c ≠ 15 → c ≠ 17 → c ≠ 10 → c ≠ 13 → hget h5 (ky F c) = hget (hset (hset h3 (ky F (lc + 1 + 3)) (mkRow [.int .i64 0, .int .i64 0, .int .i64 0] 0)) (ky F (lc + 1 + 3)) (mkRow [.int .i64 (j : Int), .int .i64 (s : Int), .int .i64 df] 0)) (ky F c) := fun c hc c1 c2 c3 c4 => q6 _ (lift c hc) (by rw [Ne, ky_inj]; exact c1) (by rw [Ne, ky_inj]; exact c2) (by rw [Ne, ky_inj]; exact c3) (by rw [Ne, ky_inj]; exact c4)
    have low5 : Low F h h5 := fun i hi => (q6 i (Nat.lt_of_lt_of_le hi (ky_mono (by show F ≤ g; omega))) (by have := ky_le F 15; omega) (by have := ky_le F 17; omega) (by have := ky_le F 10; omega) (by have := ky_le F 13; omega)).trans (low4 i hi)
    repeat' (first | refine st ?_ | ((with_reducible apply r_drawL); (focus kernel_rfl); (focus kernel_rfl); (focus (exact sd1))) | ((with_reducible (first | apply r_any | apply r_cond)); focus (simp only [↓reduceIte, clsOf, Fr.ev, ofV, ofA, ofS, put_mk, pureOp, pBin, binA, Nat.reduceLT, Nat.reduceEqDiff, binA, stepOp, stV_mk, stepAny, wantedA_none, Tget_set, u72, ad] <;> rfl)))
    exact r_rq_n (k := ds.length - (i + 1)) (by omega) ⟨_, _, _, g + 1, i + 1, _, co, rfl, rfl, by omega, by omega, by omega, rfl, by omega, low5, by rw [a2, hsP_step]; exact ⟨(m5 19 (by omega) (by decide) (by decide) (by decide) (by decide)).trans ((mH 19 (by omega)).trans hb3), q1, q2, (m5 7 (by omega) (by decide) (by decide) (by decide) (by decide)).trans ((mH 7 (by omega)).trans r7), q4, q5⟩, by rw [a1]; exact hO.move ((m5 co (by omega) (by omega) (by omega) (by omega) (by omega)).trans (mH co (by omega))), hco0, by omega, sd8, sd8, (by first | (simp only [Tget_set, Nat.reduceEqDiff, ↓reduceIte, u3, ee] <;> rfl) | rfl), sd8, sd8, sd8, (by first | (simp only [Tget_set, Nat.reduceEqDiff, ↓reduceIte, u70, ee] <;> rfl) | rfl), sd8, sd8⟩
  rintro fr s' ⟨lc3, tt, h3, g, out, co, rfl, rfl, hg1, hg2, hlc3, hlow, hb3, r15, r17, r7, r10, r13, hO, hco0, hco, u0, u2, u3, u4, u11, u15⟩
  obtain ⟨gd, hfl1, _⟩ := audT_gd (R := R) (W := W) (ds := ds) gd0 ds.length (Nat.le_refl _)
  obtain ⟨b, hbb⟩ : ∃ b, b = (audT R W b0 ds ds.length).2 := ⟨_, rfl⟩
  obtain ⟨fs, hfs⟩ : ∃ fs, fs = (audT R W b0 ds ds.length).1 := ⟨_, rfl⟩
  rw [← hbb] at r7 r13 gd
  rw [← hfs] at hO hfl1
  have hau : audF R W w.toNat full ds whole = fs ++ (if whole = true then leftS b (ds.length : Int) R.length else []) := by
    rw [hfs, hbb, audT_all, hb0]; rfl
  have hok := aud_ok (R := R) (W := W) (w := w.toNat) (full := full) (ds := ds) (whole := whole)
  cases whole with
  | false =>
    repeat' (first | refine st ?_ | ((with_reducible apply r_drawL); (focus kernel_rfl); (focus kernel_rfl); (focus (exact sd1))))
    subst hQ
    refine ret_back (by simp only [Tryz.results12, resultOf, resultsA, resultA, List.toList_toArray, Fr.ev, Tget_set, ↓reduceIte] <;> rfl) ?_
    simp only [Bool.false_eq_true, if_false, List.append_nil] at hau
    rw [← hau] at hO
    exact ⟨_, _, g, rfl, hg1, hg2, hO.lstI (ks := ks2) (find_ok (by omega) hok.2) (by rw [pL_len]; omega) (by omega), hlow0.trans hlow, (hlow0.trans hlow).same hwf⟩
  | true =>
    repeat' (first | refine st ?_ | ((with_reducible apply r_drawL); (focus kernel_rfl); (focus kernel_rfl); (focus (exact sd1))) | ((with_reducible (first | apply r_any | apply r_cond)); focus (simp only [↓reduceIte, clsOf, clsCall, Fr.ev, ofV, ofA, ofS, put_mk, pureOp, readOp, List.getElem?_cons_zero, Nat.reduceLT, stepOp, stV_mk, stepAny, wantedA_none, rCall, rLen, Tget_set, lL] <;> rfl)))
    refine r_loopE (j := 6) (R := fun fr s' => ∃ lc tt h4 out co, fr = ⟨F, lc, 124, tt, [], .no⟩ ∧ s' = ⟨h4, g⟩ ∧ lc ≤ 400000000000000000000001000 ∧ Low F h h4 ∧ GrA h4 F co 2 out (pL (fs ++ leftS b (ds.length : Int) R.length)) ∧ co < lc ∧ tt.get 15 = some out) (I := fun nn fr s' => ∃ lc tt h4 i out co, fr = ⟨F, lc, 124, tt, [], .no⟩ ∧ s' = ⟨h4, g⟩ ∧ i ≤ R.length ∧ nn = R.length - i ∧ lc + nn * 1000 ≤ 400000000000000000000000000 ∧ Low F h h4 ∧ (∀ c, c < 20 → hget h4 (ky F c) = hget h3 (ky F c)) ∧ GrA h4 F co 2 out (pL (fs ++ leftS b (ds.length : Int) i)) ∧ 20 ≤ co ∧ co < lc ∧ tt.get 0 = some l ∧ tt.get 2 = some fu ∧ tt.get 3 = some e ∧ tt.get 4 = some (.bool true) ∧ tt.get 11 = some (.ptr (ky F 19) 0) ∧ tt.get 15 = some out ∧ tt.get 94 = some (.int .i64 (R.length : Int)) ∧ tt.get 95 = some (.int .i64 (i : Int))) (n := R.length) ?_ ?_ ?_ ?_
    · omega
    · exact ⟨_, _, _, 0, _, co, rfl, rfl, Nat.zero_le _, (Nat.sub_zero _).symm, by omega, hlow, fun c _ => rfl, by rw [leftS, List.append_nil]; exact hO, hco0, by omega, sd8, sd8, sd8, sd8, sd8, sd8, sd8, sd8⟩
    · rintro nn fr s' ⟨lc, tt, h4, i, out, co, rfl, rfl, hi, rfl, hlc, hlow4, mv, hO, hco0, hco, u0, u2, u3, u4, u11, u15, u94, u95⟩
      by_cases hil : i < R.length
      rotate_left
      · repeat' (first | refine st ?_ | ((with_reducible apply r_drawL); (focus kernel_rfl); (focus kernel_rfl); (focus (exact sd1))) | ((with_reducible (first | apply r_any | apply r_cond)); focus (simp only [↓reduceIte, clsOf, Fr.ev, put_mk, pureOp, pBin, binA, intOp_lss, Nat.reduceLT, binA, stepOp, stV_mk, stepAny, wantedA_none, u94, u95, lt_f hil] <;> rfl)))
        have hend : i = R.length := by omega
        subst hend
        exact exit_at ⟨_, _, _, _, co, rfl, rfl, by omega, hlow4, hO, by omega, sd8⟩
      have hb4 := (mv 19 (by decide)).trans hb3
      have X3 := (mv 7 (by decide)).trans r7
      have X5 := (mv 13 (by decide)).trans r13
      have hm3 : i < b.fu.length := by rw [gd.fu]; exact hil
      have hm5 : i < b.re.length := by rw [gd.re]; exact hil
      obtain ⟨v1, hv1⟩ : ∃ v, b.fu[i]? = some v := ⟨_, List.getElem?_eq_getElem hm3⟩
      obtain ⟨v2, hv2⟩ : ∃ v, b.re[i]? = some v := ⟨_, List.getElem?_eq_getElem hm5⟩
      have qf := rd_a (bools_get hv1)
      have qr := rd_a (bools_get hv2)
      have ad := intOp_add (P := Tryz.prog) (t := 3) (show inR ((i : Int) + 1) by unfold inR; omega)
      have hll := (leftS_ok b (ds.length : Int) i).1
      cases v1 with
      | true =>
        have hlf := leftS_no (m := (ds.length : Int)) (show ¬ (atB b.fu i = false ∧ atB b.re i = false) from fun h => by rw [atB_of hv1] at h; exact absurd h.1 (by decide))
        repeat' (first | refine st ?_ | ((with_reducible apply r_drawL); (focus kernel_rfl); (focus kernel_rfl); (focus (exact sd1))) | ((with_reducible (first | apply r_any | apply r_cond)); focus (simp only [↓reduceIte, wantedA_eq, gBool_t, Bool.not_true, clsOf, Fr.ev, ofV, ofA, ofS, put_mk, pureOp, readOp, pFA, pFA1, pFA2, rLd, rdAB_row, oneCell_one, pBin, binA, intOp_lss, pPick, List.length_cons, List.length_nil, List.getElem?_cons_zero, List.getElem?_cons_succ, List.drop_zero, List.drop_succ_cons, List.take_succ_cons, List.take_zero, Nat.zero_add, Nat.reduceAdd, Nat.reduceLT, Nat.reduceLeDiff, Nat.reduceEqDiff, Nat.add_eq, loadA_w, loadW_s, pUn_not, pNil, binA, stepOp, stV_mk, sz4, ag4, sz83, ag83, Tryz.underlying86, stepAny, wantedA_none, Tget_set, u94, u95, lt_t hil, hb4, X3, qf, pIA_s Tryz.underlying83 sz4 hil, ad] <;> rfl)))
        exact r_rq_n (k := R.length - (i + 1)) (by omega) ⟨_, _, _, i + 1, _, co, rfl, rfl, by omega, rfl, by omega, hlow4, mv, by rw [hlf]; exact hO, hco0, by omega, sd8, sd8, sd8, sd8, sd8, sd8, sd8, sd8⟩
      | false =>
        cases v2 with
        | true =>
          have hlf := leftS_no (m := (ds.length : Int)) (show ¬ (atB b.fu i = false ∧ atB b.re i = false) from fun h => by rw [atB_of hv2] at h; exact absurd h.2 (by decide))
          repeat' (first | refine st ?_ | ((with_reducible apply r_drawL); (focus kernel_rfl); (focus kernel_rfl); (focus (exact sd1))) | ((with_reducible (first | apply r_any | apply r_cond)); focus (simp only [↓reduceIte, Bool.not_true, Bool.not_false, clsOf, Fr.ev, ofV, ofA, ofS, put_mk, pureOp, readOp, pFA, pFA1, pFA2, rLd, rdAB_row, oneCell_one, pBin, binA, intOp_lss, pPick, List.length_cons, List.length_nil, List.getElem?_cons_zero, List.getElem?_cons_succ, List.drop_zero, List.drop_succ_cons, List.take_succ_cons, List.take_zero, Nat.zero_add, Nat.reduceAdd, Nat.reduceLT, Nat.reduceLeDiff, Nat.reduceEqDiff, Nat.add_eq, loadA_w, loadW_s, pUn_not, pNil, binA, stepOp, stV_mk, sz4, ag4, sz83, ag83, Tryz.underlying86, stepAny, wantedA_none, Tget_set, u94, u95, lt_t hil, hb4, X3, X5, qf, qr, pIA_s Tryz.underlying83 sz4 hil, ad] <;> rfl)))
          exact r_rq_n (k := R.length - (i + 1)) (by omega) ⟨_, _, _, i + 1, _, co, rfl, rfl, by omega, rfl, by omega, hlow4, mv, by rw [hlf]; exact hO, hco0, by omega, sd8, sd8, sd8, sd8, sd8, sd8, sd8, sd8⟩
        | false =>
          have hlf := leftS_yes (m := (ds.length : Int)) (show atB b.fu i = false ∧ atB b.re i = false from ⟨atB_of hv1, atB_of hv2⟩)
          obtain ⟨h5, ap, hO5, m5⟩ := GrA.app (P := Tryz.prog) (t := 45) (t2 := 45) (k := lc + 21 + 5) (f := g) (h := hset h4 (ky F (lc + 21 + 4)) (mkRow [.int .i64 6, .int .i64 (ds.length : Int)] 2)) (N := pL [(6, (ds.length : Int))]) (hO.set (by omega)) Tryz.underlying45 Tryz.underlying45 sz92 byF zoF (src_21 (by rw [hget_hset, if_pos rfl])) (by simp [pL]) (by decide) (fun x hx => by obtain ⟨p, _, rfl⟩ := List.mem_map.1 hx; rfl) rfl (by rw [pL_len, pL_len, List.length_append]; simp only [List.length_cons, List.length_nil]; omega) (by decide)
          have g5 : ∀ c, c ≠ lc + 21 + 4 → c ≠ lc + 21 + 5 → c ≠ co → hget h5 (ky F c) = hget h4 (ky F c) := fun c q1 q2 q3 => by rw [m5 _ (by rw [Ne, ky_inj]; exact q2) (by rw [Ne, ky_inj]; exact q3), hget_hset, if_neg (by rw [ky_inj]; exact q1)]
          have low5 : Low F h h5 := fun j hj => (m5 j (by have := ky_le F (lc + 21 + 5); omega) (by have := ky_le F co; omega)).trans ((show Low F h (hset h4 (ky F (lc + 21 + 4)) (mkRow [.int .i64 6, .int .i64 (ds.length : Int)] 2)) from by repeat (first | exact hlow4 | refine Low.set ?_ (Nat.le_refl F))) j hj)
          have mv5 : ∀ c, c < 20 → hget h5 (ky F c) = hget h3 (ky F c) := fun c hc => (g5 c (by omega) (by omega) (by omega)).trans (mv c hc)
          repeat' (first | refine st ?_ | ((with_reducible apply r_drawL); (focus kernel_rfl); (focus kernel_rfl); (focus (exact sd1))) | ((with_reducible (first | apply r_any | apply r_cond)); focus (simp only [↓reduceIte, Bool.not_false, clsOf, clsCall, newBlk, allocOp, Fr.ev, evParts, ofV, ofA, ofS, AV.cells, put_mk, upd_mk, keyOf_mk, pureOp, readOp, pFA, pFA1, pFA2, rLd, rdAB_row, oneCell_one, someAgg_s, pBin, binA, intOp_lss, pPick, List.length_cons, List.length_nil, List.getElem?_cons_zero, List.getElem?_cons_succ, List.drop_zero, List.drop_succ_cons, List.take_succ_cons, List.take_zero, Nat.zero_add, Nat.reduceAdd, Nat.reduceLT, Nat.reduceLeDiff, Nat.reduceEqDiff, Nat.add_eq, loadA_w, loadW_s, pUn_not, heavyCall, pNil, pBuild, pBuild2, fieldsOk, buildParts, binA, stepOp, stHeavy, stV_mk, stB_mk, stO_mk, sz3, sz4, ag4, Tryz.underlying45, sz83, ag83, Tryz.underlying86, zr92, Tryz.underlying92, stepAny, wantedA_none, rCall, rLen, Tget_set, u94, u95, lt_t hil, hb4, X3, X5, qf, qr, pIA_s Tryz.underlying83 sz4 hil, ad, lD, listC_eq, fill2_0, fill2_1, b12, b22, nBS_F1, aBuiltin, aApp, aApp2, outOf, ap, List.length_cons, List.length_nil, Nat.reduceAdd, someAgg_s] <;> rfl)))
          exact r_rq_n (k := R.length - (i + 1)) (by omega) ⟨_, _, _, i + 1, _, lc + 21 + 5, rfl, rfl, by omega, rfl, by omega, low5, mv5, by rw [hlf, ← List.append_assoc, pL_app]; exact hO5, by omega, by omega, sd8, sd8, sd8, sd8, sd8, sd8, sd8, sd8⟩
    rintro fr s' ⟨lc4, tt, h4, out, co, rfl, rfl, hlc4, hlow4, hO, hco, u15⟩
    repeat' (first | refine st ?_ | ((with_reducible apply r_drawL); (focus kernel_rfl); (focus kernel_rfl); (focus (exact sd1))))
    subst hQ
    refine ret_back (by simp only [Tryz.results12, resultOf, resultsA, resultA, List.toList_toArray, Fr.ev, Tget_set, ↓reduceIte] <;> rfl) ?_
    simp only [if_true] at hau
    rw [← hau] at hO
    exact ⟨_, _, g, rfl, hg1, hg2, hO.lstI (ks := ks2) (find_ok (by omega) hok.2) (by rw [pL_len]; omega) (by omega), hlow0.trans hlow4, (hlow0.trans hlow4).same hwf⟩

end Go.Proofs.YtfhgiadogeephaaGreatDoor

