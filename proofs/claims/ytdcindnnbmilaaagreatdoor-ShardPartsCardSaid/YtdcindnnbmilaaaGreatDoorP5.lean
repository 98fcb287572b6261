/- A part of the proof of the law ShardParts. CONDITIONS: those that each theorem names. -/
import Derived.Test.YtdcindnnbmilaaaGreatDoorP4
namespace Go.Proofs.YtdcindnnbmilaaaGreatDoor
open Go Go.Ai
set_option maxRecDepth 100000

theorem all_cells {L : List (List AV)} (h : ∀ l ∈ L, cksOk ksT l) : allCell L.flatten = true := by
  induction L with
  | nil => rfl
  | cons l L ih =>
    obtain ⟨s, e⟩ := cks_T (h l List.mem_cons_self)
    subst e
    rw [List.flatten_cons]
    show allCell (.str s :: L.flatten) = true
    simp only [allCell, isCell]
    exact ih fun x hx => h x (List.mem_cons_of_mem _ hx)
theorem flat_cells {L : List (List AV)} (h : ∀ l ∈ L, cksOk ksT l) : ∀ a ∈ L.flatten, Flatv a := by
  intro a ha
  obtain ⟨l, hl, hm⟩ := List.mem_flatten.1 ha
  obtain ⟨s, e⟩ := cks_T (h l hl)
  subst e
  cases List.mem_singleton.1 hm
  exact flat_str _
theorem flat_len {L : List (List AV)} (h : ∀ l ∈ L, cksOk ksT l) : L.flatten.length = L.length := by
  have := (flatten_get (L := L) (es := 1) fun l hl => (h l hl).length).1
  omega
theorem fit_any {h1 : Heap} {k0 len : Nat} {Z : List AV} {b : AV} {B : List (List AV)} (hg : hget h1 k0 = some (mkRow Z 1)) (hl : LstP h1 ksT b B) (hz : len + B.length ≤ Z.length) (hm : Z.length ≤ 1000) :
    ∃ h2, (∀ key f, appendA Tryz.prog 22 22 key ⟨h1, f⟩ (.slice k0 0 0 len none) b = some (.slice k0 0 0 (len + B.length) none, ⟨h2, f⟩)) ∧ hget h2 k0 = some (mkRow (ovr Z len B.flatten) 1) ∧ (∀ h0, SameH h0 h1 → (∀ i ab, hget h0 i = some ab → ab ≠ .dead → i ≠ k0) → SameH h0 h2) := by
  rcases Nat.eq_zero_or_pos B.length with h0 | hp
  · have hB := List.length_eq_zero_iff.1 h0
    subst hB
    refine ⟨h1, fun key f => ?_, hg, fun _ h _ => h⟩
    exact app_same (s := ⟨h1, f⟩) Tryz.underlying22 Tryz.underlying22 sz9 by9 zo9 (src_none (ks := ksT) hl) (by omega) (by omega)
  · refine ⟨hset h1 k0 (mkRow (ovr Z (len * 1) B.flatten) 1), fun key f => ?_, by rw [hget_hset, if_pos rfl, Nat.mul_one], fun h0 hs hn i ab hi hd => ?_⟩
    · have := app_fit (s := ⟨h1, f⟩) (key := key) (len := len) Tryz.underlying22 Tryz.underlying22 sz9 by9 zo9 (src_L (ks := ksT) hl hp) hp hg (by omega) (by rw [flat_len hl.1]; omega) (all_cells hl.1) (by omega) (by omega)
      rw [this]; rfl
    · rw [hget_hset, if_neg (hn i ab hi hd)]
      exact hs i ab hi hd
theorem cat_eq {A B : List (List AV)} (hA : ∀ l ∈ A, cksOk ksT l) (hB : ∀ l ∈ B, cksOk ksT l) {Z : List AV} (hz : Z.length = A.length + B.length) : ovr (ovr Z 0 A.flatten) A.length B.flatten = (A ++ B).flatten := by
  have h1 := flat_len hA
  have h2 := flat_len hB
  rw [ovr_eq _ _ _ (by rw [ovr_length]; omega), ovr_eq A.flatten Z 0 (by omega), List.take_zero, List.nil_append, List.take_append_of_le_length (by omega), List.take_of_length_le (by omega), List.drop_eq_nil_of_le (by rw [List.length_append, List.length_drop]; omega), List.append_nil, List.flatten_append]
theorem ia0 {sk : Nat} {cap : Option Nat} : pIA Tryz.prog 108 (some (.slice sk 0 0 2 cap)) (some (.int .i64 0)) = some (.ptr sk 0) := pIA_s (i := 0) Tryz.underlying108 sz22 (by omega)
theorem ia1 {sk : Nat} {cap : Option Nat} : pIA Tryz.prog 108 (some (.slice sk 0 0 2 cap)) (some (.int .i64 1)) = some (.ptr sk 1) := pIA_s (i := 1) Tryz.underlying108 sz22 (by omega)
theorem two_z : ((2 : Nat) : Int) = 2 := rfl
theorem i01 : intOp Tryz.prog .add 3 .i64 .i64 0 1 = some (.int .i64 1) := intOp_add (by unfold inR; omega)
theorem i11 : intOp Tryz.prog .add 3 .i64 .i64 1 1 = some (.int .i64 2) := intOp_add (by unfold inR; omega)

set_option maxHeartbeats 1000000 in
theorem conc19 (h : Heap) (F sk : Nat) (cap : Option Nat) (ra rb : AV) (A B : List (List AV)) (hA : LstP h ksT ra A) (hB : LstP h ksT rb B) (hr : rdAB (hget h sk) 0 2 = some [ra, rb]) (hp : 0 < A.length + B.length) (hm : A.length + B.length ≤ 1000) : Snd Tryz.prog [] 19 [.slice sk 0 0 2 cap] ⟨h, F⟩ [.val (.slice (ky F 0) 0 0 (A.length + B.length) none) ⟨hset h (ky F 0) (mkRow (A ++ B).flatten 1), F + 1⟩] := by
  refine snd_block (flat_cells (L := A ++ B) fun l hl => (List.mem_append.1 hl).elim (hA.1 l) (hB.1 l)) fun hw => ?_
  have q0 : rdAB (hget h sk) 0 1 = some [ra] := rdAB_part hr (k := 0) (j := 1) (by omega)
  have q1 : rdAB (hget h sk) 1 1 = some [rb] := rdAB_part hr (k := 1) (j := 1) (by omega)
  have f1 : intOp Tryz.prog .add 3 .i64 .i64 0 (A.length : Int) = some (.int .i64 (A.length : Int)) := by rw [intOp_add (by unfold inR; omega), Int.zero_add]
  have f2 : intOp Tryz.prog .add 3 .i64 .i64 (A.length : Int) (B.length : Int) = some (.int .i64 ((A.length + B.length : Nat) : Int)) := by rw [intOp_add (by unfold inR; omega)]; rfl
  have g1 : decide ((A.length : Int) < 0) = false := decide_eq_false (by omega)
  have g2 : decide (((A.length + B.length : Nat) : Int) < 0) = false := decide_eq_false (by omega)
  have hlow := rd_low hw hr
  have hsk : (sk = nk (F + 1)) = False := nk_old hlow
  have hN0 : 0 < A.length + B.length ∧ A.length + B.length ≤ 1000 := ⟨hp, hm⟩
  have hN1 := hN0
  have hN2 := hN0
  have hold : ∀ i ab, hget h i = some ab → ab ≠ .dead → i ≠ nk (F + 1) := fun i ab hi hd => by
    have h1 := hw i ab hi hd
    have h2 := nk_low F
    simp only at h1
    omega
  have hS1 : SameH h (hset h (nk (F + 1)) (mkRow (repl [AV.str []] (A.length + B.length)) 1)) := fun i ab hi hd => by rw [hget_hset, if_neg (hold i ab hi hd)]; exact hi
  obtain ⟨h2, ap1', hg2, hS2⟩ := fit_any (h1 := hset h (nk (F + 1)) (mkRow (repl [AV.str []] (A.length + B.length)) 1)) (k0 := nk (F + 1)) (len := 0) (Z := repl [AV.str []] (A.length + B.length)) (by rw [hget_hset, if_pos rfl]) (hA.same hS1) (by rw [repl_len]; omega) (by rw [repl_len]; omega)
  have hS2 := hS2 h hS1 hold
  obtain ⟨h3, ap2, hg3, hS3⟩ := fit_any (k0 := nk (F + 1)) (len := A.length) hg2 (hB.same hS2) (by rw [ovr_length, repl_len]; omega) (by rw [ovr_length, repl_len]; omega)
  have hS3 := hS3 h hS2 hold
  have ap1 : ∀ key f, appendA Tryz.prog 22 22 key ⟨hset h (nk (F + 1)) (mkRow (repl [AV.str []] (A.length + B.length)) 1), f⟩ (.slice (nk (F + 1)) 0 0 0 none) ra = some (.slice (nk (F + 1)) 0 0 A.length none, ⟨h2, f⟩) := fun key f => by rw [ap1', Nat.zero_add]
  rw [cat_eq hA.1 hB.1 (repl_len _)] at hg3
  have q2 : rdAB (hget h2 sk) 1 1 = some [rb] := hS2.rd q1
  refine sndQ_body (K := KG) kg_ok mixed noNum (m := 3) Tryz.func19 ?_
  generalize hQ : retQ _ _ _ _ _ _ = Q0
  refine body_go (c := Tryz.f19.body.getD .skip) (n := 36) rfl rfl (by simp only [↓reduceIte, T.setList, T.set_e] <;> rfl) ?_
  simp only [Tryz.f19, Option.getD_some]
  repeat' (first
  | with_reducible refine r_seq ?_
  | with_reducible refine r_next ?_
  | with_reducible refine r_block ?_
  | with_reducible refine r_seq_exit ?_
  | with_reducible refine r_seq_ret ?_
  | with_reducible refine r_blk_n ?_
  | with_reducible refine r_blk_ret ?_
  | with_reducible refine r_blk_hit ?_
  | with_reducible refine r_blk_miss rfl ?_
  | with_reducible refine r_skip ?_
  | with_reducible refine r_exit ?_
  | with_reducible refine r_ret ?_
  | with_reducible refine r_rq_exit ?_
  | with_reducible refine r_rq_ret ?_
  | ((with_reducible apply r_regA); (focus (simp only [List.append_eq, List.cons_append, List.nil_append] <;> rfl)); (focus (first | exact Nat.le_of_ble_eq_true rfl | (simp only [List.length_cons, List.length_nil]; omega))))
  | ((with_reducible refine r_reg (List.toList_toArray) ?_ ?_); focus (first | exact Nat.le_of_ble_eq_true rfl | (simp only [List.length_cons, List.length_nil]; omega)))
  | ((with_reducible apply r_end); focus (simp only [Nat.reduceAdd, Nat.zero_add] <;> rfl))
  | ((with_reducible (first | apply r_any | apply r_cond)); focus (simp only [↓reduceIte, clsOf, clsCall, Fr.ev, evs, ofV, ofA, ofS, put_mk, keyOf_mk, pureOp, readOp, rLd, oneCell_one, hget_hset_ite, pBin, binA, intOp_lss, List.getElem?_cons_zero, Nat.zero_add, Nat.reduceAdd, Nat.reduceLT, Nat.reduceEqDiff, Nat.reduceSub, and_self, loadA_w, loadW_s, callTo_s, heavyCall, target, List.nil_append, List.append_nil, binA, decide_true, decide_false, Int.reduceLT, stepOp, stHeavy, stV_mk, stO_mk, T.get_n, T.set_n, T.set_e, Nat.reduceDiv, Nat.reduceMod, sz22, ag22, Tryz.underlying108, stepAny, wantedA_none, rCall, rLen, rLen1_sl, lenA, natOf_c, KGf, kg_fn, q0, q1, q2, hsk, f1, f2, g1, g2, ia0, ia1, two_z, i01, i11, natOf_c, hN0, aBuiltin, aApp, aApp2, ap1, ap2, outOf, rLen1_L Tryz.underlying22 hA, rLen1_L Tryz.underlying22 hB] <;> rfl))
  | (with_reducible rw [ifQ_t])
  | (with_reducible rw [ifQ_f])
  | with_reducible refine r_loopU ?_
  | with_reducible refine r_un ?_
  | with_reducible refine r_uq_n ?_
  | with_reducible refine r_uq_exit ?_
  | with_reducible refine r_uq_ret ?_
  | (with_reducible refine ifQ_intro ?_ ?_ <;> intro hb))
  subst hQ
  exact ret_back (by simp only [Tryz.results19, resultOf, resultsA, resultA, List.toList_toArray, Fr.ev, T.get_n, Nat.reduceDiv, Nat.reduceMod, Nat.reduceSub, Nat.reduceEqDiff, ↓reduceIte] <;> rfl) ⟨_, _, _, rfl, hS3, nk_low F, hg3⟩

set_option maxHeartbeats 1000000 in
theorem conc0 (h : Heap) (F sk : Nat) (cap : Option Nat) (ra rb : AV) (A B : List (List AV)) (hA : LstP h ksT ra A) (hB : LstP h ksT rb B) (hr : rdAB (hget h sk) 0 2 = some [ra, rb]) (h0 : A.length + B.length = 0) : Snd Tryz.prog [] 19 [.slice sk 0 0 2 cap] ⟨h, F⟩ [.val .nils ⟨h, F⟩] := by
  refine snd_val (by simp [Kin]) fun hw => ?_
  have q0 : rdAB (hget h sk) 0 1 = some [ra] := rdAB_part hr (k := 0) (j := 1) (by omega)
  have q1 : rdAB (hget h sk) 1 1 = some [rb] := rdAB_part hr (k := 1) (j := 1) (by omega)
  have f1 : intOp Tryz.prog .add 3 .i64 .i64 0 (A.length : Int) = some (.int .i64 (A.length : Int)) := by rw [intOp_add (by unfold inR; omega), Int.zero_add]
  have f2 : intOp Tryz.prog .add 3 .i64 .i64 (A.length : Int) (B.length : Int) = some (.int .i64 ((A.length + B.length : Nat) : Int)) := by rw [intOp_add (by unfold inR; omega)]; rfl
  have g1 : decide ((A.length : Int) < 0) = false := decide_eq_false (by omega)
  have g2 : decide (((A.length + B.length : Nat) : Int) < 0) = false := decide_eq_false (by omega)
  have f3 : intOp Tryz.prog .add 3 .i64 .i64 (A.length : Int) (B.length : Int) = some (.int .i64 ((0 : Nat) : Int)) := by rw [f2, h0]
  have g3 : decide (((0 : Nat) : Int) < 0) = false := decide_eq_false (by omega)
  have hA0 := hA
  have hB0 := hB
  rw [List.length_eq_zero_iff.1 (by omega : A.length = 0)] at hA0
  rw [List.length_eq_zero_iff.1 (by omega : B.length = 0)] at hB0
  have ap1 : ∀ key f, appendA Tryz.prog 22 22 key ⟨h, f⟩ .nils ra = some (.nils, ⟨h, f⟩) := fun key f => app_nil0 (s := ⟨h, f⟩) Tryz.underlying22 Tryz.underlying22 sz9 by9 zo9 (src_none (ks := ksT) hA0)
  have ap2 : ∀ key f, appendA Tryz.prog 22 22 key ⟨h, f⟩ .nils rb = some (.nils, ⟨h, f⟩) := fun key f => app_nil0 (s := ⟨h, f⟩) Tryz.underlying22 Tryz.underlying22 sz9 by9 zo9 (src_none (ks := ksT) hB0)
  refine sndQ_body (K := KG) kg_ok mixed noNum (m := 3) Tryz.func19 ?_
  generalize hQ : retQ _ _ _ _ _ _ = Q0
  refine body_go (c := Tryz.f19.body.getD .skip) (n := 36) rfl rfl (by simp only [↓reduceIte, T.setList, T.set_e] <;> rfl) ?_
  simp only [Tryz.f19, Option.getD_some]
  repeat' (first
  | with_reducible refine r_seq ?_
  | with_reducible refine r_next ?_
  | with_reducible refine r_block ?_
  | with_reducible refine r_seq_exit ?_
  | with_reducible refine r_seq_ret ?_
  | with_reducible refine r_blk_n ?_
  | with_reducible refine r_blk_ret ?_
  | with_reducible refine r_blk_hit ?_
  | with_reducible refine r_blk_miss rfl ?_
  | with_reducible refine r_skip ?_
  | with_reducible refine r_exit ?_
  | with_reducible refine r_ret ?_
  | with_reducible refine r_rq_exit ?_
  | with_reducible refine r_rq_ret ?_
  | ((with_reducible apply r_regA); (focus (simp only [List.append_eq, List.cons_append, List.nil_append] <;> rfl)); (focus (first | exact Nat.le_of_ble_eq_true rfl | (simp only [List.length_cons, List.length_nil]; omega))))
  | ((with_reducible refine r_reg (List.toList_toArray) ?_ ?_); focus (first | exact Nat.le_of_ble_eq_true rfl | (simp only [List.length_cons, List.length_nil]; omega)))
  | ((with_reducible apply r_end); focus (simp only [Nat.reduceAdd, Nat.zero_add] <;> rfl))
  | ((with_reducible (first | apply r_any | apply r_cond)); focus (simp only [↓reduceIte, clsOf, clsCall, Fr.ev, evs, ofV, ofA, ofS, put_mk, keyOf_mk, pureOp, readOp, rLd, oneCell_one, pBin, binA, intOp_lss, List.getElem?_cons_zero, Nat.zero_add, Nat.reduceAdd, Nat.reduceLT, Nat.reduceLeDiff, Nat.reduceEqDiff, Nat.reduceSub, and_true, loadA_w, loadW_s, callTo_s, heavyCall, target, List.nil_append, List.append_nil, binA, decide_true, decide_false, Int.reduceLT, stepOp, stHeavy, stV_mk, stO_mk, T.get_n, T.set_n, T.set_e, Nat.reduceDiv, Nat.reduceMod, sz22, ag22, Tryz.underlying108, stepAny, wantedA_none, rCall, rLen, rLen1_sl, lenA, natOf_c, KGf, kg_fn, q0, q1, Nat.lt_irrefl, eq_self, f1, f3, g1, g3, ia0, ia1, two_z, i01, i11, natOf_c, aBuiltin, aApp, aApp2, ap1, ap2, outOf, rLen1_L Tryz.underlying22 hA, rLen1_L Tryz.underlying22 hB] <;> rfl))
  | (with_reducible rw [ifQ_t])
  | (with_reducible rw [ifQ_f])
  | with_reducible refine r_loopU ?_
  | with_reducible refine r_un ?_
  | with_reducible refine r_uq_n ?_
  | with_reducible refine r_uq_exit ?_
  | with_reducible refine r_uq_ret ?_
  | (with_reducible refine ifQ_intro ?_ ?_ <;> intro hb))
  subst hQ
  refine ret_back (by simp only [Tryz.results19, resultOf, resultsA, resultA, List.toList_toArray, Fr.ev, T.get_n, Nat.reduceDiv, Nat.reduceMod, Nat.reduceSub, Nat.reduceEqDiff, ↓reduceIte] <;> rfl) ⟨_, rfl, ?_⟩
  repeat (first | exact Same.base _ _ _ | exact Same.refl _ | refine Same.hset hw ?_ (ky_le _ _))

end Go.Proofs.YtdcindnnbmilaaaGreatDoor

