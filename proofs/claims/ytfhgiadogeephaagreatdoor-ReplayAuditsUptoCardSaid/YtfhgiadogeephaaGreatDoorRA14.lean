/- A part of the proof of the law ReplayAudits. CONDITIONS: those that each theorem names. -/
import Derived.Test.YtfhgiadogeephaaGreatDoorPartA
import Derived.Test.YtfhgiadogeephaaGreatDoorRA10
import Derived.Test.YtfhgiadogeephaaGreatDoorPartC
import Derived.Test.YtfhgiadogeephaaGreatDoorPartE
namespace Go.Proofs.YtfhgiadogeephaaGreatDoor
open Go Go.Ai
set_option maxRecDepth 100000

theorem byF : bytesT Tryz.prog 92 = some 16 := by kernel_rfl
theorem zoF : zeroOk Tryz.prog 92 2 16 = true := by kernel_rfl
theorem nBS_F1 {key : Nat} {a b : AV} : nBS Tryz.prog key 1 (some (.slice 92)) (some [(0, .agg [a, b])]) = some (.slice key 0 0 1 (some 1), mkRow [a, b] 2) := by
  have tg : tagA Tryz.prog 92 = 0 := by kernel_rfl
  simp only [nBS, nBS2, sz92, zr92, repl, AV.cells, nBS3, rowT_mk, buildArr, tg, mkRowT_0]
  rfl
theorem ky_up {F a c : Nat} (ha : a ≤ 1267650600228229401496703205375) : (ky F a = ky (F + 1) c) = False := eq_false (by have := ky_next F a ha; have := ky_le (F + 1) c; omega)
theorem ky_dn {F a c : Nat} (ha : a ≤ 1267650600228229401496703205375) : (ky (F + 1) c = ky F a) = False := eq_false (by have := ky_next F a ha; have := ky_le (F + 1) c; omega)
/-- what is said of begin and of rule -/
def SB (R W : List (List Tx)) (w : Nat) (full : List Int) : FuncId → List AV → St → Out → Prop
  | 36, _, s, o => ∃ v h', o = .val v ⟨h', s.fc + 1⟩ ∧ BkP s.fc h' v R.length (beginB R.length w full) ∧ Low s.fc s.h h' ∧ SameH s.h h'
  | 37, [p, _, .agg [.int _ x, .int _ q, .int _ f]], s, o => ∀ b, CB s.h s.fc p b → o = .val (.int .i64 (ruleB R W b ⟨x, q, f⟩)) s
  | _, _, _, _ => True
theorem ruleQ {h : Heap} {F : Nat} {p l : AV} {b : Bk} {x q f : Int} {R W : List (List Tx)} {w0 w : Nat} {full : List Int} (hc : CB h F p b) (gd : Gd w R.length b) (hL : EntP h l R W) (hn : R.length ≤ 100) (hb : ∀ i, (atL R i).length + (atL W i).length ≤ 100000) :
    SndQ Tryz.prog [] 37 [p, l, .agg [.int .i64 x, .int .i64 q, .int .i64 f]] ⟨h, F⟩ (SB R W w0 full 37 [p, l, .agg [.int .i64 x, .int .i64 q, .int .i64 f]] ⟨h, F⟩) := by
  have hc0 := hc
  obtain ⟨kk, s1, s2, s3, s4, s5, rfl, hk, hg, g1, g2, g3, g4, g5⟩ := hc
  exact ⟨_, ruleA h F kk s1 s2 s3 s4 s5 l b x q f R W w hk hg g1 g2 g3 g4 g5 gd hL hn hb, fun o ho b' hb' => by rw [List.mem_singleton.1 ho, CB.inj hb' hc0]⟩
theorem find_ok {fs : List (Int × Int)} {m : Nat} (hm : m ≤ 1000000) (h : ∀ p ∈ fs, 0 ≤ p.1 ∧ p.1 ≤ 6 ∧ 0 ≤ p.2 ∧ p.2 ≤ (m : Int)) : ∀ x ∈ pL fs, cksOk ks2 x := by
  intro x hx
  obtain ⟨p, hp, rfl⟩ := List.mem_map.1 hx
  have := h p hp
  have e1 : IntKind.i64.min = -9223372036854775808 := by decide
  have e2 : IntKind.i64.max = 9223372036854775807 := by decide
  exact ⟨_, _, rfl, ⟨rfl, by omega, by omega⟩, _, _, rfl, ⟨rfl, by omega, by omega⟩, rfl⟩
theorem aud_ok {R W : List (List Tx)} {w : Nat} {full : List Int} {ds : List Ev} {whole : Bool} : (audF R W w full ds whole).length ≤ ds.length + R.length ∧ ∀ p ∈ audF R W w full ds whole, 0 ≤ p.1 ∧ p.1 ≤ 6 ∧ 0 ≤ p.2 ∧ p.2 ≤ (ds.length : Int) := by
  obtain ⟨_, h2, h3⟩ := audT_gd (R := R) (W := W) (ds := ds) (Gd.begin R.length w full) ds.length (Nat.le_refl _)
  rw [audT_all] at h2 h3
  have e : audF R W w full ds whole = (audS R W ds 0 ([], beginB R.length w full)).1 ++ (if whole = true then leftS (audS R W ds 0 ([], beginB R.length w full)).2 (ds.length : Int) R.length else []) := rfl
  rw [e]
  cases whole with
  | false =>
    rw [if_neg (by decide), List.append_nil]
    exact ⟨by omega, h3⟩
  | true =>
    rw [if_pos rfl]
    obtain ⟨k1, k2⟩ := leftS_ok (audS R W ds 0 ([], beginB R.length w full)).2 (ds.length : Int) R.length
    refine ⟨by rw [List.length_append]; omega, fun p hp => ?_⟩
    rcases List.mem_append.1 hp with hp | hp
    · exact h3 p hp
    · rw [k2 p hp]; exact ⟨show (0 : Int) ≤ 6 by decide, show (6 : Int) ≤ 6 by decide, by simp only; omega, by simp⟩
set_option maxHeartbeats 16000000 in
theorem auditB (h : Heap) (F : Nat) (l fu e : AV) (w : Int) (whole : Bool) (R W : List (List Tx)) (full : List Int) (ds : List Ev) (hL : EntP h l R W) (hF : LstP h ks1 fu (iL full)) (hD : LstP h ksD e (evL ds)) (hn : R.length ≤ 100) (hb : ∀ i, (atL R i).length + (atL W i).length ≤ 100000) (hwn : w ≤ 1000) (hfl : full.length ≤ 1000000) (hds : ds.length ≤ 1000) :
    SndQ Tryz.prog [] 14 [l, .int .i64 w, fu, e, .bool whole] ⟨h, F⟩ (fun o => ∃ v h', o = .val v ⟨h', F + 1 + 1⟩ ∧ LstI F (F + 1) h' ks2 v (pL (audF R W w.toNat full ds whole)) ∧ Low F h h' ∧ SameH h h') := by
  have mxl : maxLen = 9223372036854775807 := by decide
  refine sndQ_wf fun hw => ?_
  have lL := fun (h2 : Heap) => hL.len (h2 := h2)
  have lD := fun (h2 : Heap) => rLen1_L (h2 := h2) Tryz.underlying39 hD
  rw [evL_len] at lD
  refine sndQ_body (K := (KA (SB R W w.toNat full))) ka_ok mixed noNum (m := R.length + ds.length + 1) Tryz.func14 ?_
  generalize hQ : retQ _ _ _ _ _ _ = Q0
  refine body_go (c := Tryz.f14.body.getD .skip) (n := 116) rfl rfl (by simp only [↓reduceIte, T.setList, T.set_e, T.set_n, Nat.reduceDiv, Nat.reduceMod, Nat.reduceEqDiff, Nat.reduceSub, Nat.reduceAdd, Nat.zero_add] <;> rfl) ?_
  simp only [Tryz.f14, Option.getD_some]
  repeat' (first | refine st ?_ | ((with_reducible apply r_drawL); (focus kernel_rfl); (focus kernel_rfl); (focus (exact sd1))) | ((with_reducible (first | apply r_any | apply r_cond)); focus (simp only [↓reduceIte, clsOf, clsCall, Fr.ev, evs, ofV, ofA, ofS, put_mk, pureOp, readOp, List.getElem?_cons_zero, Nat.reduceLT, Nat.reduceEqDiff, Nat.reduceSub, callTo_s, heavyCall, target, List.nil_append, List.append_nil, stepOp, stHeavy, stV_mk, T.get_n, T.set_n, T.set_e, Nat.reduceDiv, Nat.reduceMod, stepAny, wantedA_none, rCall, rLen, lL] <;> rfl)))
  refine r_callC (S := SB R W w.toNat full) (f := 36) (by first | rfl | (simp only [wantedA_none, Tget_set])) (by simp only [callOuts, callTo_s, target, evs, Fr.ev, Tget_set, T.get_n, Nat.reduceEqDiff, Nat.reduceDiv, Nat.reduceMod, Nat.reduceSub, ↓reduceIte, List.nil_append, List.append_nil]; exact kc_miss rfl) ?_ ?_
  · exact beginA h (F + 1) R.length w fu full hF (by omega) hwn hfl
  intro oo ho
  obtain ⟨p, h1, rfl, hbk, hlow1, hs1⟩ := ho
  refine ⟨_, by simp only [put_mk, Nat.reduceLT, ↓reduceIte] <;> rfl, ?_⟩
  obtain ⟨k, c1, c2, c3, c4, c5, s1, s2, rfl, hb1, g1, g2, r3, r4, r5, hU, hcs⟩ := hbk
  simp only [] at hb1 g1 g2 r3 r4 r5
  have hk := hcs k (by simp)
  have hk1 := hcs c1 (by simp)
  have hk2 := hcs c2 (by simp)
  have hk3 := hcs c3 (by simp)
  have hk4 := hcs c4 (by simp)
  have hk5 := hcs c5 (by simp)
  simp only [List.nodup_cons, List.mem_cons, List.not_mem_nil, or_false, not_or, List.nodup_nil, and_true, not_false_eq_true] at hU
  have kf : (k = c1) = False ∧ (k = c2) = False ∧ (k = c3) = False ∧ (k = c4) = False ∧ (k = c5) = False ∧ (c1 = k) = False ∧ (c1 = c2) = False ∧ (c1 = c3) = False ∧ (c1 = c4) = False ∧ (c1 = c5) = False ∧ (c2 = k) = False ∧ (c2 = c1) = False ∧ (c2 = c3) = False ∧ (c2 = c4) = False ∧ (c2 = c5) = False ∧ (c3 = k) = False ∧ (c3 = c1) = False ∧ (c3 = c2) = False ∧ (c3 = c4) = False ∧ (c3 = c5) = False ∧ (c4 = k) = False ∧ (c4 = c1) = False ∧ (c4 = c2) = False ∧ (c4 = c3) = False ∧ (c4 = c5) = False ∧ (c5 = k) = False ∧ (c5 = c1) = False ∧ (c5 = c2) = False ∧ (c5 = c3) = False ∧ (c5 = c4) = False := by refine ⟨?_, ?_, ?_, ?_, ?_, ?_, ?_, ?_, ?_, ?_, ?_, ?_, ?_, ?_, ?_, ?_, ?_, ?_, ?_, ?_, ?_, ?_, ?_, ?_, ?_, ?_, ?_, ?_, ?_, ?_⟩ <;> exact eq_false (by omega)
  obtain ⟨b0, hb0⟩ : ∃ b0, b0 = beginB R.length w.toNat full := ⟨_, rfl⟩
  rw [← hb0] at g1 g2 r3 r4 r5
  have gd0 : Gd w.toNat R.length b0 := by rw [hb0]; exact Gd.begin _ _ _
  have hlow1' : Low F h h1 := hlow1.down (show F ≤ F + 1 by omega)
  repeat' (first | refine st ?_ | ((with_reducible apply r_drawL); (focus kernel_rfl); (focus kernel_rfl); (focus (exact sd1))) | ((with_reducible (first | apply r_any | apply r_cond)); focus (simp only [↓reduceIte, clsOf, Fr.ev, ofV, ofA, ofS, put_mk, pureOp, Nat.reduceLT, Nat.reduceEqDiff, Nat.reduceSub, stepOp, stV_mk, T.set_n, T.set_e, Nat.reduceDiv, Nat.reduceMod, stepAny, wantedA_none] <;> rfl)))
  refine r_loopE (j := 0) (R := fun fr s' => ∃ lc tt h3 out co, fr = ⟨F, lc, 116, tt, [], .no⟩ ∧ s' = ⟨h3, F + 1 + 1⟩ ∧ lc ≤ 100000000000000000000001000 ∧ Low F h h3 ∧ hget h3 (ky (F + 1) k) = some (mkRow [s1, s2, .slice (ky (F + 1) c3) 0 0 R.length (some R.length), .slice (ky (F + 1) c4) 0 0 R.length (some R.length), .slice (ky (F + 1) c5) 0 0 R.length (some R.length)] 0) ∧ RowA h3 (ky (F + 1) c1) s1 (ints (audT R W b0 ds ds.length).2.ph) ∧ RowA h3 (ky (F + 1) c2) s2 (ints (audT R W b0 ds ds.length).2.hs) ∧ hget h3 (ky (F + 1) c3) = some (aRow (bools (audT R W b0 ds ds.length).2.fu)) ∧ hget h3 (ky (F + 1) c4) = some (aRow (bools (audT R W b0 ds ds.length).2.ta)) ∧ hget h3 (ky (F + 1) c5) = some (aRow (bools (audT R W b0 ds ds.length).2.re)) ∧ GrA h3 F co 2 out (pL (audT R W b0 ds ds.length).1) ∧ co < lc ∧ tt.get 0 = some l ∧ tt.get 3 = some e ∧ tt.get 4 = some (.bool whole) ∧ tt.get 11 = some (.ptr (ky (F + 1) k) 0) ∧ tt.get 12 = some out) (I := fun nn fr s' => ∃ lc tt h3 i out co, fr = ⟨F, lc, 116, tt, [], .no⟩ ∧ s' = ⟨h3, F + 1 + 1⟩ ∧ i ≤ ds.length ∧ nn = ds.length - i ∧ lc + nn * 1000 ≤ 100000000000000000000000000 ∧ Low F h h3 ∧ (hget h3 (ky (F + 1) k) = some (mkRow [s1, s2, .slice (ky (F + 1) c3) 0 0 R.length (some R.length), .slice (ky (F + 1) c4) 0 0 R.length (some R.length), .slice (ky (F + 1) c5) 0 0 R.length (some R.length)] 0) ∧ RowA h3 (ky (F + 1) c1) s1 (ints (audT R W b0 ds i).2.ph) ∧ RowA h3 (ky (F + 1) c2) s2 (ints (audT R W b0 ds i).2.hs) ∧ hget h3 (ky (F + 1) c3) = some (aRow (bools (audT R W b0 ds i).2.fu)) ∧ hget h3 (ky (F + 1) c4) = some (aRow (bools (audT R W b0 ds i).2.ta)) ∧ hget h3 (ky (F + 1) c5) = some (aRow (bools (audT R W b0 ds i).2.re))) ∧ GrA h3 F co 2 out (pL (audT R W b0 ds i).1) ∧ co < lc ∧ tt.get 0 = some l ∧ tt.get 3 = some e ∧ tt.get 4 = some (.bool whole) ∧ tt.get 11 = some (.ptr (ky (F + 1) k) 0) ∧ tt.get 12 = some out ∧ tt.get 13 = some (.int .i64 (i : Int))) (n := ds.length) ?_ ?_ ?_ ?_
  · omega
  · exact ⟨_, _, _, 0, _, 0, rfl, rfl, Nat.zero_le _, (Nat.sub_zero _).symm, by omega, hlow1', by rw [audT_0]; exact ⟨hb1, g1, g2, r3, r4, r5⟩, by rw [audT_0]; exact GrA.nil, by omega, sd8, sd8, sd8, sd8, sd8, sd8⟩
  · rintro nn fr s' ⟨lc, tt, h3, i, out, co, rfl, rfl, hi, rfl, hlc, hlow, ⟨hb3, G1, G2, R3, R4, R5⟩, hO, hco, u0, u3, u4, u11, u12, u13⟩
    have hS := hlow.same hw
    by_cases hil : i < ds.length
    rotate_left
    · repeat' (first | refine st ?_ | ((with_reducible apply r_drawL); (focus kernel_rfl); (focus kernel_rfl); (focus (exact sd1))) | ((with_reducible (first | apply r_any | apply r_cond)); focus (simp only [↓reduceIte, clsOf, clsCall, Fr.ev, put_mk, pureOp, readOp, pBin, binA, intOp_lss, List.getElem?_cons_zero, Nat.reduceLT, Nat.reduceEqDiff, binA, stepOp, stV_mk, stepAny, wantedA_none, rCall, rLen, Tget_set, lD, lt_f hil] <;> rfl)))
      have hend : i = ds.length := by omega
      subst hend
      exact exit_at ⟨_, _, _, _, co, rfl, rfl, by omega, hlow, hb3, G1, G2, R3, R4, R5, hO, by omega, sd8, sd8, sd8, sd8, sd8⟩
    obtain ⟨d, hd⟩ : ∃ d, ds[i]? = some d := ⟨ds[i], by simp⟩
    obtain ⟨gd, hfl1, _⟩ := audT_gd (R := R) (W := W) (ds := ds) gd0 i (Nat.le_of_lt hil)
    obtain ⟨eb, oe, eoe, cape, rfl, hbe, rd0, rd1, rd2⟩ := ev_at hw hD hS hd
    have ad := intOp_add (P := Tryz.prog) (t := 3) (show inR ((i : Int) + 1) by unfold inR; omega)
    have qu := fun (c : Nat) => ky_up (F := F) (a := lc + 4 + 4) (c := c) (by omega)
    have qd := fun (c : Nat) => ky_dn (F := F) (a := lc + 4 + 4) (c := c) (by omega)
    repeat' (first | refine st ?_ | ((with_reducible apply r_drawL); (focus kernel_rfl); (focus kernel_rfl); (focus (exact sd1))) | ((with_reducible (first | apply r_any | apply r_cond)); focus (simp only [↓reduceIte, clsOf, clsCall, newBlk, allocOp, Fr.ev, evs, nVar, AV.cells, rowOf_mk, put_mk, put_none, upd_mk, keyOf_mk, pureOp, readOp, rLd, rdAB_row, someAgg_s, hget_same, pBin, binA, intOp_lss, List.length_cons, List.length_nil, List.getElem?_cons_zero, List.drop_zero, List.take_succ_cons, List.take_zero, Nat.zero_add, Nat.reduceAdd, Nat.reduceLT, Nat.reduceLeDiff, Nat.reduceEqDiff, and_self, loadA_w, loadW_a, aSt_w, stOut_s, wrAB_row, ovr, List.set_cons_zero, List.set_cons_succ, allCell, ic_i, callTo_s, heavyCall, target, actOp, List.nil_append, List.append_nil, binA, stepOp, stHeavy, stV_mk, stB_mk, stO_mk, sz89, ag89, zr89, tg89, stepAny, wantedA_none, rCall, rLen, Tget_set, lD, lt_t hil, pIA_s Tryz.underlying39 sz89 hil, rd0] <;> rfl)))
    have low4 : Low F h (hset (hset h3 (ky F (lc + 4 + 4)) (mkRow [.int .i64 0, .int .i64 0, .int .i64 0] 0)) (ky F (lc + 4 + 4)) (mkRow [.int .i64 d.pick, .int .i64 d.seq, .int .i64 d.phase] 0)) := (hlow.set (Nat.le_refl F)).set (Nat.le_refl F)
    have hb4 : hget (hset (hset h3 (ky F (lc + 4 + 4)) (mkRow [.int .i64 0, .int .i64 0, .int .i64 0] 0)) (ky F (lc + 4 + 4)) (mkRow [.int .i64 d.pick, .int .i64 d.seq, .int .i64 d.phase] 0)) (ky (F + 1) k) = hget h3 (ky (F + 1) k) := by simp only [hget_hset_ite, qd, ↓reduceIte]
    have m1 : hget (hset (hset h3 (ky F (lc + 4 + 4)) (mkRow [.int .i64 0, .int .i64 0, .int .i64 0] 0)) (ky F (lc + 4 + 4)) (mkRow [.int .i64 d.pick, .int .i64 d.seq, .int .i64 d.phase] 0)) (ky (F + 1) c1) = hget h3 (ky (F + 1) c1) := by simp only [hget_hset_ite, qd, ↓reduceIte]
    have m2 : hget (hset (hset h3 (ky F (lc + 4 + 4)) (mkRow [.int .i64 0, .int .i64 0, .int .i64 0] 0)) (ky F (lc + 4 + 4)) (mkRow [.int .i64 d.pick, .int .i64 d.seq, .int .i64 d.phase] 0)) (ky (F + 1) c2) = hget h3 (ky (F + 1) c2) := by simp only [hget_hset_ite, qd, ↓reduceIte]
    have m3 : hget (hset (hset h3 (ky F (lc + 4 + 4)) (mkRow [.int .i64 0, .int .i64 0, .int .i64 0] 0)) (ky F (lc + 4 + 4)) (mkRow [.int .i64 d.pick, .int .i64 d.seq, .int .i64 d.phase] 0)) (ky (F + 1) c3) = hget h3 (ky (F + 1) c3) := by simp only [hget_hset_ite, qd, ↓reduceIte]
    have m4 : hget (hset (hset h3 (ky F (lc + 4 + 4)) (mkRow [.int .i64 0, .int .i64 0, .int .i64 0] 0)) (ky F (lc + 4 + 4)) (mkRow [.int .i64 d.pick, .int .i64 d.seq, .int .i64 d.phase] 0)) (ky (F + 1) c4) = hget h3 (ky (F + 1) c4) := by simp only [hget_hset_ite, qd, ↓reduceIte]
    have m5' : hget (hset (hset h3 (ky F (lc + 4 + 4)) (mkRow [.int .i64 0, .int .i64 0, .int .i64 0] 0)) (ky F (lc + 4 + 4)) (mkRow [.int .i64 d.pick, .int .i64 d.seq, .int .i64 d.phase] 0)) (ky (F + 1) c5) = hget h3 (ky (F + 1) c5) := by simp only [hget_hset_ite, qd, ↓reduceIte]
    have hCB : CB (hset (hset h3 (ky F (lc + 4 + 4)) (mkRow [.int .i64 0, .int .i64 0, .int .i64 0] 0)) (ky F (lc + 4 + 4)) (mkRow [.int .i64 d.pick, .int .i64 d.seq, .int .i64 d.phase] 0)) (F + 1 + 1) (.ptr (ky (F + 1) k) 0) (audT R W b0 ds i).2 := ⟨_, _, _, _, _, _, rfl, ky_next _ _ hk, hb4.trans hb3, (G1.move m1).b (ky_next _ _ hk1), (G2.move m2).b (ky_next _ _ hk2), (RowA.new (by rw [bools_len, gd.fu]) (m3.trans R3)).b (ky_next _ _ hk3), (RowA.new (by rw [bools_len, gd.ta]) (m4.trans R4)).b (ky_next _ _ hk4), (RowA.new (by rw [bools_len, gd.re]) (m5'.trans R5)).b (ky_next _ _ hk5)⟩
    refine r_callC (S := SB R W w.toNat full) (f := 37) (by first | rfl | (simp only [wantedA_none, Tget_set])) (by simp only [callOuts, callTo_s, target, evs, Fr.ev, Tget_set, Nat.reduceEqDiff, ↓reduceIte, List.nil_append, List.append_nil]; exact kc_miss rfl) ?_ ?_
    · exact ruleQ hCB gd (hL.same (low4.same hw)) hn hb
    intro oo ho
    obtain ⟨r, hr⟩ : ∃ r, ruleB R W (audT R W b0 ds i).2 d = r := ⟨_, rfl⟩
    have ho2 : oo = .val (.int .i64 r) ⟨(hset (hset h3 (ky F (lc + 4 + 4)) (mkRow [.int .i64 0, .int .i64 0, .int .i64 0] 0)) (ky F (lc + 4 + 4)) (mkRow [.int .i64 d.pick, .int .i64 d.seq, .int .i64 d.phase] 0)), F + 1 + 1⟩ := by rw [← hr]; exact ho _ hCB
    subst ho2
    refine ⟨_, by simp only [put_mk, Nat.reduceLT, ↓reduceIte] <;> rfl, ?_⟩
    by_cases hr0 : r = 0
    rotate_left
    · have e1 : (r != 0) = true := bne_iff_ne.2 hr0
      obtain ⟨a1, a2⟩ := audT_no (R := R) (W := W) (b := b0) hd (by rw [hr]; exact hr0)
      rw [hr] at a1
      obtain ⟨h5, ap, hO5, m5⟩ := GrA.app (P := Tryz.prog) (t := 45) (t2 := 45) (k := lc + 17 + 5) (f := F + 1 + 1) (h := hset (hset (hset h3 (ky F (lc + 4 + 4)) (mkRow [.int .i64 0, .int .i64 0, .int .i64 0] 0)) (ky F (lc + 4 + 4)) (mkRow [.int .i64 d.pick, .int .i64 d.seq, .int .i64 d.phase] 0)) (ky F (lc + 17 + 4)) (mkRow [.int .i64 r, .int .i64 (i : Int)] 2)) (N := pL [(r, (i : Int))]) (((hO.set (by omega)).set (by omega)).set (by omega)) Tryz.underlying45 Tryz.underlying45 sz92 byF zoF (src_21 (by rw [hget_hset, if_pos rfl])) (by simp [pL]) (by decide) (fun x hx => by obtain ⟨p, _, rfl⟩ := List.mem_map.1 hx; rfl) rfl (by rw [pL_len, pL_len]; simp only [List.length_cons, List.length_nil]; omega) (by decide)
      have g5 : ∀ i, i ≠ ky F (lc + 17 + 4) → i ≠ ky F (lc + 17 + 5) → i ≠ ky F co → hget h5 i = hget (hset (hset h3 (ky F (lc + 4 + 4)) (mkRow [.int .i64 0, .int .i64 0, .int .i64 0] 0)) (ky F (lc + 4 + 4)) (mkRow [.int .i64 d.pick, .int .i64 d.seq, .int .i64 d.phase] 0)) i := fun i q1 q2 q3 => by rw [m5 _ q2 q3, hget_hset, if_neg q1]
      have low5 : Low F h h5 := fun j hj => (m5 j (by have := ky_le F (lc + 17 + 5); omega) (by have := ky_le F co; omega)).trans ((show Low F h (hset (hset (hset h3 (ky F (lc + 4 + 4)) (mkRow [.int .i64 0, .int .i64 0, .int .i64 0] 0)) (ky F (lc + 4 + 4)) (mkRow [.int .i64 d.pick, .int .i64 d.seq, .int .i64 d.phase] 0)) (ky F (lc + 17 + 4)) (mkRow [.int .i64 r, .int .i64 (i : Int)] 2)) from by repeat (first | exact hlow | refine Low.set ?_ (Nat.le_refl F))) j hj)
      have mv : ∀ c, hget h5 (ky (F + 1) c) = hget h3 (ky (F + 1) c) := fun c => by
        rw [g5 _ (by rw [Ne, ky_dn (by omega)]; exact id) (by rw [Ne, ky_dn (by omega)]; exact id) (by rw [Ne, ky_dn (by omega)]; exact id)]
        simp only [hget_hset_ite, qd, ↓reduceIte]
      repeat' (first | refine st ?_ | ((with_reducible apply r_drawL); (focus kernel_rfl); (focus kernel_rfl); (focus (exact sd1))) | ((with_reducible (first | apply r_any | apply r_cond)); focus (simp only [↓reduceIte, clsOf, clsCall, newBlk, allocOp, Fr.ev, evParts, ofV, ofA, ofS, AV.cells, put_mk, upd_mk, keyOf_mk, pureOp, someAgg_s, pBin, binA, intOp_neq, List.length_cons, List.length_nil, List.getElem?_cons_zero, List.getElem?_cons_succ, Nat.zero_add, Nat.reduceAdd, Nat.reduceLT, Nat.reduceEqDiff, heavyCall, pBuild, pBuild2, fieldsOk, buildParts, binA, stepOp, stHeavy, stV_mk, stB_mk, stO_mk, sz3, Tryz.underlying45, zr92, Tryz.underlying92, stepAny, wantedA_none, Tget_set, e1, listC_eq, fill2_0, fill2_1, b12, b22, nBS_F1, aBuiltin, aApp, aApp2, outOf, ap, List.length_cons, List.length_nil, Nat.reduceAdd, someAgg_s, ad] <;> rfl)))
      exact r_rq_n (k := ds.length - (i + 1)) (by omega) ⟨_, _, _, i + 1, _, lc + 17 + 5, rfl, rfl, by omega, rfl, by omega, low5, by rw [a2]; exact ⟨(mv k).trans hb3, G1.move (mv c1), G2.move (mv c2), (mv c3).trans R3, (mv c4).trans R4, (mv c5).trans R5⟩, by rw [a1, pL_app]; exact hO5, by omega, sd8, sd8, sd8, sd8, sd8, sd8⟩
    subst hr0
    obtain ⟨a1, a2⟩ := audT_go (R := R) (W := W) (b := b0) hd hr
    have hns := rule0 hr
    have e1 : True := trivial
    obtain ⟨dp, dq, df⟩ := d
    simp only at rd0 rd1 rd2 hns
    obtain ⟨j, rfl⟩ : ∃ j : Nat, dp = j := ⟨dp.toNat, by omega⟩
    obtain ⟨s, rfl⟩ : ∃ s : Nat, dq = s := ⟨dq.toNat, by omega⟩
    have hj : j < w.toNat := by rw [← gd.ph]; omega
    have hs : s < R.length := by omega
    obtain ⟨eo1, cap1, es1, x1⟩ := G1.pos (by rw [ints_len, gd.ph]; omega)
    obtain ⟨eo2, cap2, es2, x2⟩ := G2.pos (by rw [ints_len, gd.hs]; omega)
    rw [ints_len, gd.ph] at es1
    rw [ints_len, gd.hs] at es2
    have hb3' := hb3
    rw [es1, es2] at hb3'
    have w1 := fun (h3 : Heap) => wr_a (h := h3) (id := ky (F + 1) c1) (xs := ints (audT R W b0 ds i).2.ph) (j := j) (v := .int .i64 df) (by rw [ints_len, gd.ph]; exact hj) rfl
    have w2 := fun (h3 : Heap) => wr_a (h := h3) (id := ky (F + 1) c2) (xs := ints (audT R W b0 ds i).2.hs) (j := j) (v := .int .i64 (s : Int)) (by rw [ints_len, gd.hs]; exact hj) rfl
    have w4 := fun (h3 : Heap) => wr_a (h := h3) (id := ky (F + 1) c4) (xs := bools (audT R W b0 ds i).2.ta) (j := s) (v := .bool true) (by rw [bools_len, gd.ta]; exact hs) rfl
    have w5 := fun (h3 : Heap) => wr_a (h := h3) (id := ky (F + 1) c5) (xs := bools (audT R W b0 ds i).2.re) (j := s) (v := .bool true) (by rw [bools_len, gd.re]; exact hs) rfl
    simp only [ints_set, bools_set] at w1 w2 w4 w5
    have p1 : (stepB (audT R W b0 ds i).2 ⟨j, s, df⟩).ph = (audT R W b0 ds i).2.ph.set j df := rfl
    have p2 : (stepB (audT R W b0 ds i).2 ⟨j, s, df⟩).hs = (audT R W b0 ds i).2.hs.set j (s : Int) := rfl
    have p3 : (stepB (audT R W b0 ds i).2 ⟨j, s, df⟩).fu = (audT R W b0 ds i).2.fu := rfl
    by_cases hf1 : df = 1
    · subst hf1
      have p4 : (stepB (audT R W b0 ds i).2 ⟨j, s, 1⟩).ta = (audT R W b0 ds i).2.ta.set s true := rfl
      have p5 : (stepB (audT R W b0 ds i).2 ⟨j, s, 1⟩).re = (audT R W b0 ds i).2.re := rfl
      have e2 : True := trivial
      have e3 : True := trivial
      repeat' (first | refine st ?_ | ((with_reducible apply (r_drawG (id := 10) (js := [(0, 0), (1, 1), (2, 3), (3, 7), (4, 0), (5, 16), (6, 0), (7, 64), (8, 255), (9, 511)]))); (focus kernel_rfl); (focus kernel_rfl); (focus (exact sd1))) | ((with_reducible apply g_end); (focus (simp only [List.length_cons, List.length_nil, Nat.add_assoc, Nat.reduceAdd, Nat.zero_add] <;> rfl)); simp only [withH_mk, addAll_nil, withH_mk, addAll_nil]) | ((with_reducible apply g_undef); (focus rfl); (focus (simp only [wantedA_none] <;> rfl)); (focus (exact sd6))) | ((with_reducible apply g_pure); (focus rfl); (focus rfl); (focus rfl); (focus (simp only [↓reduceIte, Fr.ev, pureOp, pFA, pFA1, pFA2, List.getElem?_cons_zero, List.getElem?_cons_succ, Nat.zero_add, Nat.add_zero, Nat.reduceEqDiff, Nat.add_eq, pNil, sz2, sz3, sz38, sz83, sz84, Tryz.underlying89, Tryz.underlying98, Tget_set, u11, pIA_s Tryz.underlying84 sz3 hj, pIA_s Tryz.underlying38 sz2 hj, pIA_s Tryz.underlying83 sz4 hs] <;> rfl)); (focus (exact sd6))) | ((with_reducible apply g_read); (focus rfl); (focus rfl); (focus rfl); (focus (simp only [↓reduceIte, Fr.ev, ky_inj, readOp, rLd, rdAB_row, oneCell_one, hget_same, hget_hset_ite, List.length_cons, List.length_nil, List.drop_zero, List.drop_succ_cons, List.take_succ_cons, List.take_zero, Nat.zero_add, Nat.reduceAdd, Nat.reduceLeDiff, loadA_w, loadW_s, sz2, ag2, sz3, ag3, sz38, ag38, sz83, ag83, sz84, ag84, Tget_set, addMade_nil, hb3', qu, qd, kf] <;> rfl)); (focus (exact sd6))) | ((with_reducible apply g_act); (focus rfl); (focus rfl); (focus rfl); (focus rfl); (focus (simp only [heavy, ↓reduceIte, Fr.ev, ofV, ofA, ofS, AV.cells, withH_mk, ky_inj, hget_hset_ite, List.length_cons, List.length_nil, Nat.zero_add, Nat.reduceEqDiff, aSt_w, stOut_s, actOp, sz2, sz3, sz4, Tget_set, addMade_nil, qd, kf, x1, x2, R4, w1, w2, w4] <;> rfl)); (focus (exact sd6)); (focus (simp only [decide_true, Nat.reduceDiv, Nat.reduceMod, Nat.testBit_eq_decide_div_mod_eq, Nat.reducePow, readsLeft_nil, readsLeft_cons, rdl1_t, readsOk_nil] <;> rfl)); (focus (simp only [addMade_nil, asideOk_nil] <;> rfl))) | ((with_reducible apply (r_drawG (id := 11) (js := [(0, 0), (1, 1), (2, 3), (3, 7), (4, 0), (5, 16), (6, 0), (7, 64), (8, 255), (9, 511)]))); (focus kernel_rfl); (focus kernel_rfl); (focus (exact sd1))) | ((with_reducible apply (r_drawG (id := 13) (js := [(0, 0), (1, 1), (2, 3), (3, 7), (4, 0), (5, 16), (6, 63), (7, 127)]))); (focus kernel_rfl); (focus kernel_rfl); (focus (exact sd1))) | ((with_reducible apply r_drawL); (focus kernel_rfl); (focus kernel_rfl); (focus (exact sd1))) | ((with_reducible (first | apply r_any | apply r_cond)); focus (simp only [↓reduceIte, clsOf, Fr.ev, ofV, ofA, ofS, put_mk, pureOp, readOp, pFA, pFA1, pFA2, rLd, rdAB_row, oneCell_one, hget_same, hget_hset_ite, pBin, binA, intOp_eql, intOp_neq, List.length_cons, List.length_nil, List.getElem?_cons_zero, List.getElem?_cons_succ, List.drop_zero, List.drop_succ_cons, List.take_succ_cons, List.take_zero, Nat.zero_add, Nat.reduceAdd, Nat.reduceLT, Nat.reduceLeDiff, Nat.reduceEqDiff, Nat.add_eq, loadA_w, loadW_s, binA, beq_self_eq_true, bne_self_eq_false, Int.reduceBEq, stepOp, stV_mk, sz3, ag3, Tryz.underlying89, stepAny, wantedA_none, Tget_set, qu, ad] <;> rfl)))
      have qu0 := fun (c : Nat) => ky_up (F := F) (a := co) (c := c) (by omega)
      have hco' : co < lc + 4 + 4 := by omega
      exact r_rq_n (k := ds.length - (i + 1)) (by omega) ⟨_, _, _, i + 1, _, co, rfl, rfl, by omega, rfl, by omega, by repeat (first | exact hlow | refine Low.set ?_ (by omega)), by rw [a2, p1, p2, p3, p4, p5]; exact ⟨by simp only [hget_hset_ite, ky_inj, qd, kf, ↓reduceIte]; exact hb3, by rw [es1] at G1 ⊢; exact G1.set (by rw [ints_len, ints_len, List.length_set]) (by simp only [hget_hset_ite, ky_inj, kf, ↓reduceIte]), by rw [es2] at G2 ⊢; exact G2.set (by rw [ints_len, ints_len, List.length_set]) (by simp only [hget_hset_ite, ky_inj, kf, ↓reduceIte]), by simp only [hget_hset_ite, ky_inj, qd, kf, ↓reduceIte]; exact R3, by simp only [hget_hset_ite, ↓reduceIte], by simp only [hget_hset_ite, ky_inj, qd, kf, ↓reduceIte]; exact R5⟩, by rw [a1]; exact hO.move (by simp only [hget_hset_ite, qu0, eq_false (Nat.ne_of_lt hco'), ky_inj, ↓reduceIte]), by omega, sd8, sd8, sd8, sd8, sd8, sd8⟩
    have e2 : (df == 1) = false := beq_eq_false_iff_ne.2 hf1
    have p4 : (stepB (audT R W b0 ds i).2 ⟨j, s, df⟩).ta = (audT R W b0 ds i).2.ta := by unfold stepB; exact if_neg hf1
    by_cases hf0 : df = 0
    · subst hf0
      have p5 : (stepB (audT R W b0 ds i).2 ⟨j, s, 0⟩).re = (audT R W b0 ds i).2.re.set s true := rfl
      have e3 : True := trivial
      repeat' (first | refine st ?_ | ((with_reducible apply (r_drawG (id := 10) (js := [(0, 0), (1, 1), (2, 3), (3, 7), (4, 0), (5, 16), (6, 0), (7, 64), (8, 255), (9, 511)]))); (focus kernel_rfl); (focus kernel_rfl); (focus (exact sd1))) | ((with_reducible apply g_end); (focus (simp only [List.length_cons, List.length_nil, Nat.add_assoc, Nat.reduceAdd, Nat.zero_add] <;> rfl)); simp only [withH_mk, addAll_nil, withH_mk, addAll_nil]) | ((with_reducible apply g_undef); (focus rfl); (focus (simp only [wantedA_none] <;> rfl)); (focus (exact sd6))) | ((with_reducible apply g_pure); (focus rfl); (focus rfl); (focus rfl); (focus (simp only [↓reduceIte, Fr.ev, pureOp, pFA, pFA1, pFA2, List.getElem?_cons_zero, List.getElem?_cons_succ, Nat.zero_add, Nat.add_zero, Nat.reduceEqDiff, Nat.add_eq, pNil, sz2, sz3, sz38, sz83, sz84, Tryz.underlying89, Tryz.underlying98, Tget_set, u11, pIA_s Tryz.underlying84 sz3 hj, pIA_s Tryz.underlying38 sz2 hj, pIA_s Tryz.underlying83 sz4 hs] <;> rfl)); (focus (exact sd6))) | ((with_reducible apply g_read); (focus rfl); (focus rfl); (focus rfl); (focus (simp only [↓reduceIte, Fr.ev, ky_inj, readOp, rLd, rdAB_row, oneCell_one, hget_same, hget_hset_ite, List.length_cons, List.length_nil, List.drop_zero, List.drop_succ_cons, List.take_succ_cons, List.take_zero, Nat.zero_add, Nat.reduceAdd, Nat.reduceLeDiff, loadA_w, loadW_s, sz2, ag2, sz3, ag3, sz38, ag38, sz83, ag83, sz84, ag84, Tget_set, addMade_nil, hb3', qu, qd, kf] <;> rfl)); (focus (exact sd6))) | ((with_reducible apply g_act); (focus rfl); (focus rfl); (focus rfl); (focus rfl); (focus (simp only [heavy, ↓reduceIte, Fr.ev, ofV, ofA, ofS, AV.cells, withH_mk, ky_inj, hget_hset_ite, List.length_cons, List.length_nil, Nat.zero_add, Nat.reduceEqDiff, aSt_w, stOut_s, actOp, sz2, sz3, sz4, Tget_set, addMade_nil, qd, kf, x1, x2, R5, w1, w2, w5] <;> rfl)); (focus (exact sd6)); (focus (simp only [decide_true, Nat.reduceDiv, Nat.reduceMod, Nat.testBit_eq_decide_div_mod_eq, Nat.reducePow, readsLeft_nil, readsLeft_cons, rdl1_t, readsOk_nil] <;> rfl)); (focus (simp only [addMade_nil, asideOk_nil] <;> rfl))) | ((with_reducible apply (r_drawG (id := 11) (js := [(0, 0), (1, 1), (2, 3), (3, 7), (4, 0), (5, 16), (6, 0), (7, 64), (8, 255), (9, 511)]))); (focus kernel_rfl); (focus kernel_rfl); (focus (exact sd1))) | ((with_reducible apply (r_drawG (id := 15) (js := [(0, 0), (1, 1), (2, 3), (3, 7), (4, 0), (5, 16), (6, 63), (7, 127)]))); (focus kernel_rfl); (focus kernel_rfl); (focus (exact sd1))) | ((with_reducible apply r_drawL); (focus kernel_rfl); (focus kernel_rfl); (focus (exact sd1))) | ((with_reducible (first | apply r_any | apply r_cond)); focus (simp only [↓reduceIte, clsOf, Fr.ev, ofV, ofA, ofS, put_mk, pureOp, readOp, pFA, pFA1, pFA2, rLd, rdAB_row, oneCell_one, hget_same, hget_hset_ite, pBin, binA, intOp_eql, intOp_neq, List.length_cons, List.length_nil, List.getElem?_cons_zero, List.getElem?_cons_succ, List.drop_zero, List.drop_succ_cons, List.take_succ_cons, List.take_zero, Nat.zero_add, Nat.reduceAdd, Nat.reduceLT, Nat.reduceLeDiff, Nat.reduceEqDiff, Nat.add_eq, loadA_w, loadW_s, binA, beq_self_eq_true, bne_self_eq_false, stepOp, stV_mk, sz3, ag3, Tryz.underlying89, stepAny, wantedA_none, Tget_set, qu, e2, ad] <;> rfl)))
      have qu0 := fun (c : Nat) => ky_up (F := F) (a := co) (c := c) (by omega)
      have hco' : co < lc + 4 + 4 := by omega
      exact r_rq_n (k := ds.length - (i + 1)) (by omega) ⟨_, _, _, i + 1, _, co, rfl, rfl, by omega, rfl, by omega, by repeat (first | exact hlow | refine Low.set ?_ (by omega)), by rw [a2, p1, p2, p3, p4, p5]; exact ⟨by simp only [hget_hset_ite, ky_inj, qd, kf, ↓reduceIte]; exact hb3, by rw [es1] at G1 ⊢; exact G1.set (by rw [ints_len, ints_len, List.length_set]) (by simp only [hget_hset_ite, ky_inj, kf, ↓reduceIte]), by rw [es2] at G2 ⊢; exact G2.set (by rw [ints_len, ints_len, List.length_set]) (by simp only [hget_hset_ite, ky_inj, kf, ↓reduceIte]), by simp only [hget_hset_ite, ky_inj, qd, kf, ↓reduceIte]; exact R3, by simp only [hget_hset_ite, ky_inj, qd, kf, ↓reduceIte]; exact R4, by simp only [hget_hset_ite, ↓reduceIte]⟩, by rw [a1]; exact hO.move (by simp only [hget_hset_ite, qu0, eq_false (Nat.ne_of_lt hco'), ky_inj, ↓reduceIte]), by omega, sd8, sd8, sd8, sd8, sd8, sd8⟩
    have e3 : (df == 0) = false := beq_eq_false_iff_ne.2 hf0
    have p5 : (stepB (audT R W b0 ds i).2 ⟨j, s, df⟩).re = (audT R W b0 ds i).2.re := by unfold stepB; exact if_neg hf0
    repeat' (first | refine st ?_ | ((with_reducible apply (r_drawG (id := 10) (js := [(0, 0), (1, 1), (2, 3), (3, 7), (4, 0), (5, 16), (6, 0), (7, 64), (8, 255), (9, 511)]))); (focus kernel_rfl); (focus kernel_rfl); (focus (exact sd1))) | ((with_reducible apply g_end); (focus (simp only [List.length_cons, List.length_nil, Nat.add_assoc, Nat.reduceAdd, Nat.zero_add] <;> rfl)); simp only [withH_mk, addAll_nil, withH_mk, addAll_nil]) | ((with_reducible apply g_undef); (focus rfl); (focus (simp only [wantedA_none] <;> rfl)); (focus (exact sd6))) | ((with_reducible apply g_pure); (focus rfl); (focus rfl); (focus rfl); (focus (simp only [↓reduceIte, Fr.ev, pureOp, pFA, pFA1, pFA2, List.getElem?_cons_zero, List.getElem?_cons_succ, Nat.zero_add, Nat.add_zero, Nat.reduceEqDiff, Nat.add_eq, pNil, sz2, sz3, sz38, sz84, Tryz.underlying89, Tryz.underlying98, Tget_set, u11, pIA_s Tryz.underlying84 sz3 hj, pIA_s Tryz.underlying38 sz2 hj] <;> rfl)); (focus (exact sd6))) | ((with_reducible apply g_read); (focus rfl); (focus rfl); (focus rfl); (focus (simp only [↓reduceIte, Fr.ev, ky_inj, readOp, rLd, rdAB_row, oneCell_one, hget_same, hget_hset_ite, List.length_cons, List.length_nil, List.drop_zero, List.drop_succ_cons, List.take_succ_cons, List.take_zero, Nat.zero_add, Nat.reduceAdd, Nat.reduceLeDiff, loadA_w, loadW_s, sz2, ag2, sz3, ag3, sz38, ag38, sz84, ag84, Tget_set, addMade_nil, hb3', qu, qd, kf] <;> rfl)); (focus (exact sd6))) | ((with_reducible apply g_act); (focus rfl); (focus rfl); (focus rfl); (focus rfl); (focus (simp only [heavy, ↓reduceIte, Fr.ev, AV.cells, withH_mk, ky_inj, hget_hset_ite, List.length_cons, List.length_nil, Nat.zero_add, Nat.reduceEqDiff, aSt_w, stOut_s, actOp, sz2, sz3, Tget_set, addMade_nil, qd, kf, x1, x2, w1, w2] <;> rfl)); (focus (exact sd6)); (focus (simp only [decide_true, Nat.reduceDiv, Nat.reduceMod, Nat.testBit_eq_decide_div_mod_eq, Nat.reducePow, readsLeft_nil, readsLeft_cons, rdl1_t, readsOk_nil] <;> rfl)); (focus (simp only [addMade_nil, asideOk_nil] <;> rfl))) | ((with_reducible apply (r_drawG (id := 11) (js := [(0, 0), (1, 1), (2, 3), (3, 7), (4, 0), (5, 16), (6, 0), (7, 64), (8, 255), (9, 511)]))); (focus kernel_rfl); (focus kernel_rfl); (focus (exact sd1))) | ((with_reducible apply r_drawL); (focus kernel_rfl); (focus kernel_rfl); (focus (exact sd1))) | ((with_reducible (first | apply r_any | apply r_cond)); focus (simp only [↓reduceIte, clsOf, Fr.ev, ofV, ofA, ofS, put_mk, pureOp, readOp, pFA, pFA1, pFA2, rLd, rdAB_row, oneCell_one, hget_same, hget_hset_ite, pBin, binA, intOp_eql, intOp_neq, List.length_cons, List.length_nil, List.getElem?_cons_zero, List.getElem?_cons_succ, List.drop_zero, List.drop_succ_cons, List.take_succ_cons, List.take_zero, Nat.zero_add, Nat.reduceAdd, Nat.reduceLT, Nat.reduceLeDiff, Nat.reduceEqDiff, Nat.add_eq, loadA_w, loadW_s, binA, bne_self_eq_false, stepOp, stV_mk, sz3, ag3, Tryz.underlying89, stepAny, wantedA_none, Tget_set, qu, e2, e3, ad] <;> rfl)))
    have qu0 := fun (c : Nat) => ky_up (F := F) (a := co) (c := c) (by omega)
    have hco' : co < lc + 4 + 4 := by omega
    exact r_rq_n (k := ds.length - (i + 1)) (by omega) ⟨_, _, _, i + 1, _, co, rfl, rfl, by omega, rfl, by omega, by repeat (first | exact hlow | refine Low.set ?_ (by omega)), by rw [a2, p1, p2, p3, p4, p5]; exact ⟨by simp only [hget_hset_ite, ky_inj, qd, kf, ↓reduceIte]; exact hb3, by rw [es1] at G1 ⊢; exact G1.set (by rw [ints_len, ints_len, List.length_set]) (by simp only [hget_hset_ite, ky_inj, kf, ↓reduceIte]), by rw [es2] at G2 ⊢; exact G2.set (by rw [ints_len, ints_len, List.length_set]) (by simp only [hget_hset_ite, ↓reduceIte]), by simp only [hget_hset_ite, ky_inj, qd, kf, ↓reduceIte]; exact R3, by simp only [hget_hset_ite, ky_inj, qd, kf, ↓reduceIte]; exact R4, by simp only [hget_hset_ite, ky_inj, qd, kf, ↓reduceIte]; exact R5⟩, by rw [a1]; exact hO.move (by simp only [hget_hset_ite, qu0, eq_false (Nat.ne_of_lt hco'), ky_inj, ↓reduceIte]), by omega, sd8, sd8, sd8, sd8, sd8, sd8⟩
  rintro fr s' ⟨lc0, tt, h3, out, co, rfl, rfl, hlc0, hlow, hb3, G1, G2, R3, R4, R5, hO, hco, u0, u3, u4, u11, u12⟩
  obtain ⟨gd, hfl1, _⟩ := audT_gd (R := R) (W := W) (ds := ds) gd0 ds.length (Nat.le_refl _)
  obtain ⟨b, hbb⟩ : ∃ b, b = (audT R W b0 ds ds.length).2 := ⟨_, rfl⟩
  obtain ⟨fs, hfs⟩ : ∃ fs, fs = (audT R W b0 ds ds.length).1 := ⟨_, rfl⟩
  rw [← hbb] at R3 R5 gd
  rw [← hfs] at hO hfl1
  have hau : audF R W w.toNat full ds whole = fs ++ (if whole = true then leftS b (ds.length : Int) R.length else []) := by
    rw [hfs, hbb, audT_all, hb0]; rfl
  repeat' (first | refine st ?_ | ((with_reducible apply r_drawL); (focus kernel_rfl); (focus kernel_rfl); (focus (exact sd1))) | ((with_reducible (first | apply r_any | apply r_cond)); focus (simp only [↓reduceIte, clsOf, Fr.ev, ofV, ofA, ofS, put_mk, pureOp, Nat.reduceLT, stepOp, stV_mk, stepAny, wantedA_none] <;> rfl)))
  refine r_loop (I := fun nn fr s' => ∃ lc tt h4 i out co, fr = ⟨F, lc, 116, tt, [], .no⟩ ∧ s' = ⟨h4, F + 1 + 1⟩ ∧ i ≤ R.length ∧ nn = R.length - i ∧ lc + nn * 1000 ≤ 1000000000000000000000000000 ∧ Low F h h4 ∧ (∀ c, hget h4 (ky (F + 1) c) = hget h3 (ky (F + 1) c)) ∧ GrA h4 F co 2 out (pL (fs ++ (if whole = true then leftS b (ds.length : Int) i else []))) ∧ co < lc ∧ tt.get 0 = some l ∧ tt.get 3 = some e ∧ tt.get 4 = some (.bool whole) ∧ tt.get 11 = some (.ptr (ky (F + 1) k) 0) ∧ tt.get 12 = some out ∧ tt.get 16 = some (.int .i64 (i : Int))) (n := R.length) ?_ ?_ ?_
  · omega
  · exact ⟨_, _, _, 0, _, co, rfl, rfl, Nat.zero_le _, (Nat.sub_zero _).symm, by omega, hlow, fun c => rfl, by rw [leftS, ite_self, List.append_nil]; exact hO, by omega, sd8, sd8, sd8, sd8, sd8, sd8⟩
  rintro nn fr s' ⟨lc, tt, h4, i, out, co, rfl, rfl, hi, rfl, hlc, hlow4, mv, hO, hco, u0, u3, u4, u11, u12, u16⟩
  have hS4 := hlow4.same hw
  by_cases hil : i < R.length
  rotate_left
  · have hend : i = R.length := by omega
    repeat' (first | refine st ?_ | ((with_reducible apply r_drawL); (focus kernel_rfl); (focus kernel_rfl); (focus (exact sd1))) | ((with_reducible (first | apply r_any | apply r_cond)); focus (simp only [↓reduceIte, wantedA_eq, gBool_t, clsOf, clsCall, Fr.ev, ofV, ofA, ofS, put_mk, pureOp, readOp, pBin, binA, intOp_lss, pPick, List.getElem?_cons_zero, List.getElem?_cons_succ, Nat.reduceLT, Nat.reduceEqDiff, binA, stepOp, stV_mk, stepAny, wantedA_none, rCall, rLen, Tget_set, lL, lt_f hil] <;> rfl)))
    subst hQ
    refine ret_back (by simp only [Tryz.results14, resultOf, resultsA, resultA, List.toList_toArray, Fr.ev, Tget_set, ↓reduceIte] <;> rfl) ?_
    subst hend
    rw [← hau] at hO
    have hok := aud_ok (R := R) (W := W) (w := w.toNat) (full := full) (ds := ds) (whole := whole)
    exact ⟨_, _, rfl, hO.lstI (ks := ks2) (find_ok (by omega) hok.2) (by rw [pL_len]; omega) (by omega), hlow4, hS4⟩
  cases whole with
  | false =>
    repeat' (first | refine st ?_ | ((with_reducible apply r_drawL); (focus kernel_rfl); (focus kernel_rfl); (focus (exact sd1))) | ((with_reducible (first | apply r_any | apply r_cond)); focus (simp only [↓reduceIte, clsOf, clsCall, Fr.ev, put_mk, pureOp, readOp, pBin, binA, intOp_lss, pPick, List.getElem?_cons_zero, Nat.reduceLT, Nat.reduceEqDiff, binA, stepOp, stV_mk, stepAny, wantedA_none, rCall, rLen, Tget_set, lL, lt_t hil] <;> rfl)))
    subst hQ
    refine ret_back (by simp only [Tryz.results14, resultOf, resultsA, resultA, List.toList_toArray, Fr.ev, Tget_set, ↓reduceIte] <;> rfl) ?_
    simp only [Bool.false_eq_true, if_false] at hO hau
    rw [← hau] at hO
    have hok := aud_ok (R := R) (W := W) (w := w.toNat) (full := full) (ds := ds) (whole := false)
    exact ⟨_, _, rfl, hO.lstI (ks := ks2) (find_ok (by omega) hok.2) (by rw [pL_len]; omega) (by omega), hlow4, hS4⟩
  | true =>
    simp only [if_true] at hO
    have hb4 := (mv k).trans hb3
    have X3 := (mv c3).trans R3
    have X5 := (mv c5).trans R5
    obtain ⟨KK, hKK⟩ : ∃ x, x = ky (F + 1) k := ⟨_, rfl⟩
    obtain ⟨K3, hK3⟩ : ∃ x, x = ky (F + 1) c3 := ⟨_, rfl⟩
    obtain ⟨K4, hK4⟩ : ∃ x, x = ky (F + 1) c4 := ⟨_, rfl⟩
    obtain ⟨K5, hK5⟩ : ∃ x, x = ky (F + 1) c5 := ⟨_, rfl⟩
    rw [← hKK, ← hK3, ← hK4, ← hK5] at hb4
    rw [← hK3] at X3
    rw [← hK5] at X5
    rw [← hKK] at u11
    have hm3 : i < b.fu.length := by rw [gd.fu]; exact hil
    have hm5 : i < b.re.length := by rw [gd.re]; exact hil
    obtain ⟨v1, hv1⟩ : ∃ v, b.fu[i]? = some v := ⟨_, List.getElem?_eq_getElem hm3⟩
    obtain ⟨v2, hv2⟩ : ∃ v, b.re[i]? = some v := ⟨_, List.getElem?_eq_getElem hm5⟩
    have qf := rd_a (bools_get hv1)
    have qr := rd_a (bools_get hv2)
    have ad := intOp_add (P := Tryz.prog) (t := 3) (show inR ((i : Int) + 1) by unfold inR; omega)
    have hll := (leftS_ok b (ds.length : Int) i).1
    cases v1 with
    | true =>
      have hlf := leftS_no (m := (ds.length : Int)) (show ¬ (atB b.fu i = false ∧ atB b.re i = false) from fun h => by rw [atB_of hv1] at h; exact absurd h.1 (by decide))
      repeat' (first | refine st ?_ | ((with_reducible apply r_drawL); (focus kernel_rfl); (focus kernel_rfl); (focus (exact sd1))) | ((with_reducible (first | apply r_any | apply r_cond)); focus (simp only [↓reduceIte, wantedA_eq, gBool_t, Bool.not_true, clsOf, clsCall, Fr.ev, ofV, ofA, ofS, put_mk, pureOp, readOp, pFA, pFA1, pFA2, rLd, rdAB_row, oneCell_one, pBin, binA, intOp_lss, pPick, List.length_cons, List.length_nil, List.getElem?_cons_zero, List.getElem?_cons_succ, List.drop_zero, List.drop_succ_cons, List.take_succ_cons, List.take_zero, Nat.zero_add, Nat.reduceAdd, Nat.reduceLT, Nat.reduceLeDiff, Nat.reduceEqDiff, Nat.add_eq, loadA_w, loadW_s, pUn_not, pNil, binA, stepOp, stV_mk, sz4, ag4, sz83, ag83, Tryz.underlying98, stepAny, wantedA_none, rCall, rLen, Tget_set, lL, lt_t hil, hb4, X3, qf, pIA_s Tryz.underlying83 sz4 hil, ad] <;> rfl)))
      exact r_rq_n (k := R.length - (i + 1)) (by omega) ⟨_, _, _, i + 1, _, co, rfl, rfl, by omega, rfl, by omega, hlow4, mv, by rw [if_pos rfl, hlf]; exact hO, by omega, (by first | (simp only [Tget_set, Nat.reduceEqDiff, ↓reduceIte, u0, hKK] <;> rfl) | rfl), (by first | (simp only [Tget_set, Nat.reduceEqDiff, ↓reduceIte, u3, hKK] <;> rfl) | rfl), (by first | (simp only [Tget_set, Nat.reduceEqDiff, ↓reduceIte, u4, hKK] <;> rfl) | rfl), (by first | (simp only [Tget_set, Nat.reduceEqDiff, ↓reduceIte, u11, hKK] <;> rfl) | rfl), (by first | (simp only [Tget_set, Nat.reduceEqDiff, ↓reduceIte, u12, hKK] <;> rfl) | rfl), (by first | (simp only [Tget_set, ↓reduceIte, hKK] <;> rfl) | rfl)⟩
    | false =>
      cases v2 with
      | true =>
        have hlf := leftS_no (m := (ds.length : Int)) (show ¬ (atB b.fu i = false ∧ atB b.re i = false) from fun h => by rw [atB_of hv2] at h; exact absurd h.2 (by decide))
        repeat' (first | refine st ?_ | ((with_reducible apply r_drawL); (focus kernel_rfl); (focus kernel_rfl); (focus (exact sd1))) | ((with_reducible (first | apply r_any | apply r_cond)); focus (simp only [↓reduceIte, Bool.not_true, Bool.not_false, clsOf, clsCall, Fr.ev, ofV, ofA, ofS, put_mk, pureOp, readOp, pFA, pFA1, pFA2, rLd, rdAB_row, oneCell_one, pBin, binA, intOp_lss, pPick, List.length_cons, List.length_nil, List.getElem?_cons_zero, List.getElem?_cons_succ, List.drop_zero, List.drop_succ_cons, List.take_succ_cons, List.take_zero, Nat.zero_add, Nat.reduceAdd, Nat.reduceLT, Nat.reduceLeDiff, Nat.reduceEqDiff, Nat.add_eq, loadA_w, loadW_s, pUn_not, pNil, binA, stepOp, stV_mk, sz4, ag4, sz83, ag83, Tryz.underlying98, stepAny, wantedA_none, rCall, rLen, Tget_set, lL, lt_t hil, hb4, X3, X5, qf, qr, pIA_s Tryz.underlying83 sz4 hil, ad] <;> rfl)))
        exact r_rq_n (k := R.length - (i + 1)) (by omega) ⟨_, _, _, i + 1, _, co, rfl, rfl, by omega, rfl, by omega, hlow4, mv, by rw [if_pos rfl, hlf]; exact hO, by omega, (by first | (simp only [Tget_set, Nat.reduceEqDiff, ↓reduceIte, u0, hKK] <;> rfl) | rfl), (by first | (simp only [Tget_set, Nat.reduceEqDiff, ↓reduceIte, u3, hKK] <;> rfl) | rfl), (by first | (simp only [Tget_set, Nat.reduceEqDiff, ↓reduceIte, u4, hKK] <;> rfl) | rfl), (by first | (simp only [Tget_set, Nat.reduceEqDiff, ↓reduceIte, u11, hKK] <;> rfl) | rfl), (by first | (simp only [Tget_set, Nat.reduceEqDiff, ↓reduceIte, u12, hKK] <;> rfl) | rfl), (by first | (simp only [Tget_set, ↓reduceIte, hKK] <;> rfl) | rfl)⟩
      | false =>
        have hlf := leftS_yes (m := (ds.length : Int)) (show atB b.fu i = false ∧ atB b.re i = false from ⟨atB_of hv1, atB_of hv2⟩)
        obtain ⟨h5, ap, hO5, m5⟩ := GrA.app (P := Tryz.prog) (t := 45) (t2 := 45) (k := lc + 25 + 5) (f := F + 1 + 1) (h := hset h4 (ky F (lc + 25 + 4)) (mkRow [.int .i64 6, .int .i64 (ds.length : Int)] 2)) (N := pL [(6, (ds.length : Int))]) (hO.set (by omega)) Tryz.underlying45 Tryz.underlying45 sz92 byF zoF (src_21 (by rw [hget_hset, if_pos rfl])) (by simp [pL]) (by decide) (fun x hx => by obtain ⟨p, _, rfl⟩ := List.mem_map.1 hx; rfl) rfl (by rw [pL_len, pL_len, List.length_append]; simp only [List.length_cons, List.length_nil]; omega) (by decide)
        have g5 : ∀ i, i ≠ ky F (lc + 25 + 4) → i ≠ ky F (lc + 25 + 5) → i ≠ ky F co → hget h5 i = hget h4 i := fun i q1 q2 q3 => by rw [m5 _ q2 q3, hget_hset, if_neg q1]
        have low5 : Low F h h5 := fun j hj => (m5 j (by have := ky_le F (lc + 25 + 5); omega) (by have := ky_le F co; omega)).trans ((show Low F h (hset h4 (ky F (lc + 25 + 4)) (mkRow [.int .i64 6, .int .i64 (ds.length : Int)] 2)) from by repeat (first | exact hlow4 | refine Low.set ?_ (Nat.le_refl F))) j hj)
        have mv5 : ∀ c, hget h5 (ky (F + 1) c) = hget h3 (ky (F + 1) c) := fun c => by
          rw [g5 _ (by rw [Ne, ky_dn (by omega)]; exact id) (by rw [Ne, ky_dn (by omega)]; exact id) (by rw [Ne, ky_dn (by omega)]; exact id)]
          exact mv c
        repeat' (first | refine st ?_ | ((with_reducible apply r_drawL); (focus kernel_rfl); (focus kernel_rfl); (focus (exact sd1))) | ((with_reducible (first | apply r_any | apply r_cond)); focus (simp only [↓reduceIte, Bool.not_false, clsOf, clsCall, newBlk, allocOp, Fr.ev, evParts, ofV, ofA, ofS, AV.cells, put_mk, upd_mk, keyOf_mk, pureOp, readOp, pFA, pFA1, pFA2, rLd, rdAB_row, oneCell_one, someAgg_s, pBin, binA, intOp_lss, pPick, List.length_cons, List.length_nil, List.getElem?_cons_zero, List.getElem?_cons_succ, List.drop_zero, List.drop_succ_cons, List.take_succ_cons, List.take_zero, Nat.zero_add, Nat.reduceAdd, Nat.reduceLT, Nat.reduceLeDiff, Nat.reduceEqDiff, Nat.add_eq, loadA_w, loadW_s, pUn_not, heavyCall, pNil, pBuild, pBuild2, fieldsOk, buildParts, binA, stepOp, stHeavy, stV_mk, stB_mk, stO_mk, sz3, sz4, ag4, Tryz.underlying45, sz83, ag83, zr92, Tryz.underlying92, Tryz.underlying98, stepAny, wantedA_none, rCall, rLen, Tget_set, lL, lt_t hil, hb4, X3, X5, qf, qr, pIA_s Tryz.underlying83 sz4 hil, ad, lD, listC_eq, fill2_0, fill2_1, b12, b22, nBS_F1, aBuiltin, aApp, aApp2, outOf, ap, List.length_cons, List.length_nil, Nat.reduceAdd, someAgg_s] <;> rfl)))
        exact r_rq_n (k := R.length - (i + 1)) (by omega) ⟨_, _, _, i + 1, _, lc + 25 + 5, rfl, rfl, by omega, rfl, by omega, low5, mv5, by rw [if_pos rfl, hlf, ← List.append_assoc, pL_app]; exact hO5, by omega, (by first | (simp only [Tget_set, Nat.reduceEqDiff, ↓reduceIte, u0, hKK] <;> rfl) | rfl), (by first | (simp only [Tget_set, Nat.reduceEqDiff, ↓reduceIte, u3, hKK] <;> rfl) | rfl), (by first | (simp only [Tget_set, Nat.reduceEqDiff, ↓reduceIte, u4, hKK] <;> rfl) | rfl), (by first | (simp only [Tget_set, Nat.reduceEqDiff, ↓reduceIte, u11, hKK] <;> rfl) | rfl), (by first | (simp only [Tget_set, Nat.reduceEqDiff, ↓reduceIte, hKK] <;> rfl) | rfl), (by first | (simp only [Tget_set, ↓reduceIte, hKK] <;> rfl) | rfl)⟩

end Go.Proofs.YtfhgiadogeephaaGreatDoor

