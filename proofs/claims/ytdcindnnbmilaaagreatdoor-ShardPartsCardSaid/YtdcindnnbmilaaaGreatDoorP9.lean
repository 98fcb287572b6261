/- A part of the proof of the law ShardParts. CONDITIONS: those that each theorem names. -/
import Derived.Test.YtdcindnnbmilaaaGreatDoorP8
import Derived.Test.YtdcindnnbmilaaaGreatDoorSPDraw
namespace Go.Proofs.YtdcindnnbmilaaaGreatDoor
open Go Go.Ai
set_option maxRecDepth 100000

noncomputable def belowP (n : Int) (R : List (List AV)) : List Int := below (parts n R) n.toNat
theorem part20a (h : Heap) (F : Nat) (r : AV) (R : List (List AV)) (hR : LstP h ksT r R) (n : Int) (hn : okN n) (hn3 : n ≤ 1000) (hR5 : R.length ≤ 1000) (hp : 0 < (belowP n R).length) : Snd Tryz.prog [] 20 [r, .int .i64 n] ⟨h, F⟩ [.val (.slice (ky F 0) 0 0 (belowP n R).length none) ⟨hset h (ky F 0) (mkRow (ints (belowP n R)) 1), F + 1⟩] := by
  have hnn : n = (n.toNat : Int) := by have := hn.1; omega
  refine snd_block (ints_flat _) fun hw => ?_
  unfold belowP at hp ⊢
  rw [hnn] at hn hp ⊢
  refine parts20 h F r R hR n.toNat hn hR5 (by omega) (fun h1 lc l hw hs hi => ?_) hw
  rcases hi with ⟨_, e⟩ | ⟨_, c, _, rfl, hg⟩
  · simp only [Int.toNat_natCast] at hp
    rw [e] at hp; simp at hp
  · simp only [Int.toNat_natCast]
    exact ⟨_, h1, F + 1, rfl, hs, ky_le _ _, hg⟩
theorem part20b (h : Heap) (F : Nat) (r : AV) (R : List (List AV)) (hR : LstP h ksT r R) (n : Int) (hn : okN n) (hn3 : n ≤ 1000) (hR5 : R.length ≤ 1000) (hp : ¬ 0 < (belowP n R).length) : Snd Tryz.prog [] 20 [r, .int .i64 n] ⟨h, F⟩ [.val .nils ⟨h, F⟩] := by
  have hnn : n = (n.toNat : Int) := by have := hn.1; omega
  refine snd_val (by simp [Kin]) fun hw => ?_
  unfold belowP at hp
  rw [hnn] at hn hp ⊢
  refine parts20 h F r R hR n.toNat hn hR5 (by omega) (fun h1 lc l hw hs hi => ?_) hw
  rcases hi with ⟨rfl, e⟩ | ⟨hq, _⟩
  · exact ⟨_, rfl, hs.same⟩
  · simp only [Int.toNat_natCast] at hp
    exact absurd hq hp
noncomputable def KRf : FuncId → List AV → St → Outs := fun f args z => match f, args with
  | 20, [r, .int .i64 n] => match lstOf z.h ksT r with
    | some R => open Classical in if okN n ∧ n ≤ 1000 ∧ R.length ≤ 1000 then (if 0 < (belowP n R).length then some [.val (.slice (nk z.fc) 0 0 (belowP n R).length none) ⟨hset z.h (nk z.fc) (mkRow (ints (belowP n R)) 1), z.fc + 1⟩] else some [.val .nils z]) else none
    | none => none
  | _, _ => none
noncomputable def KR : CallF := ⟨KRf, fun _ _ _ => none⟩
theorem kr_fn (f : FuncId) (args : List AV) (s : St) : CallF.fn KR f args s = KRf f args s := rfl
theorem kr_ok : KOK Tryz.prog [] KR := KOK.table fun f args s outs h => by
  obtain ⟨h0, F⟩ := s
  unfold KRf at h
  split at h
  · split at h
    · rename_i hl
      have hl := lstOf_p hl
      split at h
      · rename_i hc
        split at h
        · rename_i hp
          cases h
          rw [nk_eq]
          exact part20a _ _ _ _ hl _ hc.1 hc.2.1 hc.2.2 hp
        · rename_i hp
          cases h
          exact part20b _ _ _ _ hl _ hc.1 hc.2.1 hc.2.2 hp
      · cases h
    · cases h
  · cases h
theorem same_hk {h0 H : Heap} {k : Nat} {b : AB} (hs : SameH h0 H) (hne : ∀ i ab, hget h0 i = some ab → ab ≠ .dead → i ≠ k) : SameH h0 (hset H k b) := fun i ab hi hd => by
  rw [hget_hset, if_neg (hne i ab hi hd)]; exact hs i ab hi hd
theorem th_set {H : Heap} {k j : Nat} {b : AB} (h : there' H j = true) : there' (hset H k b) j = true := by
  unfold there' at h ⊢
  rw [hget_hset]
  split
  · rfl
  · exact h
theorem two_apps {h0 h1 : Heap} {k8 key1 key2 : Nat} {ra rb : AV} {A B : List (List AV)} (hg : hget h1 k8 = some (mkRow [] 1)) (hA : LstP h0 ksT ra A) (hB : LstP h0 ksT rb B) (hs : SameH h0 h1)
    (hne1 : ∀ i ab, hget h0 i = some ab → ab ≠ .dead → i ≠ key1) (hne2 : ∀ i ab, hget h0 i = some ab → ab ≠ .dead → i ≠ key2) (hm : A.length + B.length ≤ 1000) :
    ∃ l1 h2 l2 h3, (∀ f, appendA Tryz.prog 22 22 key1 ⟨h1, f⟩ (.slice k8 0 0 0 (some 0)) ra = some (l1, ⟨h2, f⟩)) ∧ (∀ f, appendA Tryz.prog 22 22 key2 ⟨h2, f⟩ l1 rb = some (l2, ⟨h3, f⟩)) ∧ SameH h0 h2 ∧ SameH h0 h3 ∧ there' h2 k8 = true ∧ there' h3 k8 = true ∧ LstP h3 ksT l2 (A ++ B) := by
  have mxl : maxLen = 9223372036854775807 := by decide
  have ht1 : there' h1 k8 = true := by unfold there'; rw [hg]; rfl
  have okAB : ∀ l ∈ A ++ B, cksOk ksT l := fun l hl => (List.mem_append.1 hl).elim (hA.1 l) (hB.1 l)
  rcases Nat.eq_zero_or_pos A.length with hA0 | hAp
  · have eA := List.length_eq_zero_iff.1 hA0
    subst eA
    rcases Nat.eq_zero_or_pos B.length with hB0 | hBp
    · have eB := List.length_eq_zero_iff.1 hB0
      subst eB
      exact ⟨_, h1, _, h1, fun f => app_same (s := ⟨h1, f⟩) Tryz.underlying22 Tryz.underlying22 sz9 by9 zo9 (src_none (ks := ksT) (hA.same hs)) (by omega) (by omega), fun f => app_same (s := ⟨h1, f⟩) Tryz.underlying22 Tryz.underlying22 sz9 by9 zo9 (src_none (ks := ksT) (hB.same hs)) (by omega) (by omega), hs, hs, ht1, ht1, lst_none⟩
    · refine ⟨_, h1, .slice key2 0 0 B.length none, hset h1 key2 (mkRow B.flatten 1), fun f => app_same (s := ⟨h1, f⟩) Tryz.underlying22 Tryz.underlying22 sz9 by9 zo9 (src_none (ks := ksT) (hA.same hs)) (by omega) (by omega), fun f => ?_, hs, same_hk hs hne2, ht1, th_set ht1, ?_⟩
      · rw [app_cap0 (s := ⟨h1, f⟩) (key := key2) Tryz.underlying22 Tryz.underlying22 sz9 by9 zo9 (src_L (ks := ksT) (hB.same hs) hBp) hBp hg (by omega) (by omega), St.upd_eq]
      · exact lst_new hB.1 (by omega) (by rw [hget_hset, if_pos rfl]; rfl)
  · have e1 : ∀ f, appendA Tryz.prog 22 22 key1 ⟨h1, f⟩ (.slice k8 0 0 0 (some 0)) ra = some (.slice key1 0 0 A.length none, ⟨hset h1 key1 (mkRow A.flatten 1), f⟩) := fun f => by
      rw [app_cap0 (s := ⟨h1, f⟩) (key := key1) Tryz.underlying22 Tryz.underlying22 sz9 by9 zo9 (src_L (ks := ksT) (hA.same hs) hAp) hAp hg (by omega) (by omega), St.upd_eq]
    have hs2 : SameH h0 (hset h1 key1 (mkRow A.flatten 1)) := same_hk hs hne1
    have hg2 : hget (hset h1 key1 (mkRow A.flatten 1)) key1 = some (mkRow A.flatten 1) := by rw [hget_hset, if_pos rfl]
    rcases Nat.eq_zero_or_pos B.length with hB0 | hBp
    · have eB := List.length_eq_zero_iff.1 hB0
      subst eB
      refine ⟨_, _, .slice key1 0 0 A.length none, hset h1 key1 (mkRow A.flatten 1), e1, fun f => app_same (s := ⟨hset h1 key1 (mkRow A.flatten 1), f⟩) Tryz.underlying22 Tryz.underlying22 sz9 by9 zo9 (src_none (ks := ksT) (hB.same hs2)) (by omega) (by omega), hs2, hs2, th_set ht1, th_set ht1, ?_⟩
      rw [List.append_nil]
      exact lst_new hA.1 (by omega) hg2
    · refine ⟨_, _, .slice key2 0 0 (A.length + B.length) none, hset (hset (hset h1 key1 (mkRow A.flatten 1)) key1 .dead) key2 (mkRow (A.flatten ++ B.flatten) 1), e1, fun f => ?_, hs2, same_hk (same_hk hs2 hne1) hne2, th_set ht1, th_set (th_set (th_set ht1)), ?_⟩
      · exact app_open (s := ⟨hset h1 key1 (mkRow A.flatten 1), f⟩) (key := key2) Tryz.underlying22 Tryz.underlying22 sz9 by9 zo9 (src_L (ks := ksT) (hB.same hs2) hBp) hBp (by omega) hg2 (by rw [flat_len hA.1, Nat.mul_one]) (all_cells hB.1) (by omega) (by omega)
      · have : A.length + B.length = (A ++ B).length := (List.length_append).symm
        rw [this]
        exact lst_new okAB (by omega) (by rw [hget_hset, if_pos rfl, ← List.flatten_append]; rfl)

theorem nBS22 (key : Nat) : nBS Tryz.prog key 0 (some (.slice 9)) (some []) = some (.slice key 0 0 0 (some 0), mkRow [] 1) := by
  simp only [nBS, sz9, zr9, nBS2, Nat.zero_mul, AV.cells, List.length_cons, List.length_nil, repl, buildArr, nBS3, rowOf_mk]
  rfl
theorem sweep_ok1 {v : Nat → AV} {row : AB} {F : Nat} {a : AV} (h1 h2 : Heap) (al : AlikeH h1 h2) (v' : AV) (s : St) (hm : Out.val v' s ∈ [Out.val a ⟨hset h1 (ky F 0) row, F + 1⟩]) : ∃ s', Out.val v' s' ∈ [Out.val a ⟨hset h2 (ky F 0) row, F + 1⟩] ∧ s'.fc = s.fc ∧ AlikeH s.h s'.h := by
  cases List.mem_singleton.1 hm
  exact ⟨_, List.mem_singleton.2 rfl, rfl, al.hset _ _⟩
noncomputable def refZ (n : Int) (L : List (List AV)) : List Int := open Classical in if 0 < (belowP n L).length then belowP n L else [0]
noncomputable def refC (n : Int) (L : List (List AV)) : Option Nat := open Classical in if 0 < (belowP n L).length then none else some 1

set_option maxHeartbeats 2000000 in
theorem ref7a (h : Heap) (F : Nat) (ra rb : AV) (A B : List (List AV)) (hA : LstP h ksT ra A) (hB : LstP h ksT rb B) (n : Int) (hn : okN n) (hn3 : n ≤ 1000) (hm : A.length + B.length ≤ 1000) (hp : 0 < (belowP n (A ++ B)).length) (hcl : ∀ c, hget h (ky F c) = none) : Snd Tryz.prog [] 7 [.agg [ra, rb], .int .i64 n] ⟨h, F⟩ [.val (.slice (ky F 0) 0 0 (belowP n (A ++ B)).length none) ⟨hset h (ky F 0) (mkRow (ints (belowP n (A ++ B))) 1), F + 1⟩] := by
  refine snd_block (ints_flat _) fun hw => ?_
  have hlt := okN_lt hn
  have hN0 := hp
  have hmL : (A ++ B).length ≤ 1000 := by rw [List.length_append]; exact hm
  have hle : ∀ i ab, hget (hset h (ky F 0) (mkRow [ra, rb] 0)) i = some ab → ab ≠ .dead → i ≤ ky F 0 := fun i ab hi hd => by
    rw [hget_hset] at hi
    split at hi
    · rename_i e; omega
    · have := hw i ab hi hd; simp only at this; omega
  have hne : ∀ c, 0 < c → ∀ i ab, hget (hset h (ky F 0) (mkRow [ra, rb] 0)) i = some ab → ab ≠ .dead → i ≠ ky F c := fun c hc i ab hi hd e => by
    have h1 := hle i ab hi hd
    have h2 := ky_lt (F := F) hc
    omega
  have hS0 : SameH h (hset h (ky F 0) (mkRow [ra, rb] 0)) := SameH.hset hw (SameH.refl _) (ky_le _ _)
  obtain ⟨l1, h2, l2, h3, ap1, ap2, hS2, hS3, hT2, hT3, hl2⟩ := two_apps (h0 := hset h (ky F 0) (mkRow [ra, rb] 0)) (h1 := hset (hset h (ky F 0) (mkRow [ra, rb] 0)) (ky F 4) (mkRow [] 1)) (k8 := ky F 4) (key1 := ky F 7) (key2 := ky F 10) (by rw [hget_hset, if_pos rfl]) (hA.same hS0) (hB.same hS0) (same_hk (SameH.refl _) (hne 4 (by omega))) (hne 7 (by omega)) (hne 10 (by omega)) hm
  have hl3 := lstOf_eq hl2
  have hS4 : SameH (hset h (ky F 0) (mkRow [ra, rb] 0)) (hset h3 (nk (F + 1)) (mkRow (ints (belowP n (A ++ B))) 1)) := same_hk hS3 fun i ab hi hd e => by
    have h1 := hle i ab hi hd
    have h2 : ky F 0 < nk (F + 1) := by rw [nk_eq]; unfold ky; omega
    omega
  have hm2 : (((belowP n (A ++ B)).length : Int) == 0) = false := by have : ¬ ((belowP n (A ++ B)).length : Int) = 0 := (by omega); simpa using this
  refine sndQ_body (K := KR) kr_ok mixed noNum (m := 0) Tryz.func7 ?_
  generalize hQ : retQ _ _ _ _ _ _ = Q0
  refine body_go (c := Tryz.f7.body.getD .skip) (n := 22) rfl rfl (by simp only [↓reduceIte, T.setList, T.set_e, T.set_n, Nat.reduceDiv, Nat.reduceMod, Nat.reduceEqDiff, Nat.zero_add] <;> rfl) ?_
  simp only [Tryz.f7, Option.getD_some]
  repeat' (first
  | with_reducible refine r_seq ?_
  | with_reducible refine r_next ?_
  | with_reducible refine r_block ?_
  | with_reducible refine r_seq_exit ?_
  | with_reducible refine r_seq_ret ?_
  | with_reducible refine r_blk_n ?_
  | with_reducible refine r_blk_ret ?_
  | with_reducible refine r_blk_hit ?_
  | with_reducible refine r_blk_miss rfl ?_
  | with_reducible refine r_skip ?_
  | with_reducible refine r_exit ?_
  | with_reducible refine r_ret ?_
  | with_reducible refine r_rq_exit ?_
  | with_reducible refine r_rq_ret ?_
  | ((with_reducible apply r_regA); (focus (simp only [List.append_eq, List.cons_append, List.nil_append] <;> rfl)); (focus (first | exact Nat.le_of_ble_eq_true rfl | (simp only [List.length_cons, List.length_nil]; omega))))
  | ((with_reducible refine r_reg (List.toList_toArray) ?_ ?_); focus (first | exact Nat.le_of_ble_eq_true rfl | (simp only [List.length_cons, List.length_nil]; omega)))
  | ((with_reducible apply r_end); focus (simp only [Nat.reduceAdd, Nat.zero_add] <;> rfl))
  | ((with_reducible (first | apply r_any | apply r_cond)); focus (simp only [↓reduceIte, clsOf, clsCall, newBlk, allocOp, Fr.ev, ofV, ofA, ofS, nVar, AV.cells, rowOf_mk, put_mk, upd_mk, keyOf_mk, pureOp, readOp, pBin, binA, intOp_eql, intOp_lss, List.getElem?_cons_zero, Nat.add_zero, Nat.reduceLT, Nat.reduceEqDiff, Nat.reduceSub, binA, stepOp, stV_mk, stB_mk, T.get_n, T.set_n, T.set_e, Nat.reduceDiv, Nat.reduceMod, Tryz.underlying27, stepAny, wantedA_none, rCall, rLen, rLen1_sl, lenA, hlt, hm2, Nat.reduceEqDiff] <;> rfl))
  | (with_reducible rw [ifQ_t])
  | (with_reducible rw [ifQ_f])
  | ((with_reducible apply (r_drawK (i0 := 0) (js := [0, 1, 2, 4, 5, 7, 3, 6, 8, 9]))); (focus kernel_rfl); (focus kernel_rfl); (focus (first | exact Nat.le_of_ble_eq_true rfl | (simp only [List.length_cons, List.length_nil]; omega))))
  | ((with_reducible apply k_end); (focus (simp only [List.length_cons, List.length_nil, Nat.reduceAdd, Nat.zero_add] <;> rfl)))
  | ((with_reducible apply k_pure); (focus rfl); (focus rfl); (focus (simp only [↓reduceIte, Fr.ev, put_mk, pureOp, pFA, pFA1, pFA2, List.getElem?_cons_zero, List.getElem?_cons_succ, Nat.zero_add, Nat.add_zero, Nat.reduceLT, Nat.reduceEqDiff, Nat.reduceSub, Nat.add_eq, stV_mk, T.get_n, T.set_n, T.set_e, Nat.reduceDiv, Nat.reduceMod, sz22, Tryz.underlying24, Nat.reduceEqDiff] <;> rfl)))
  | ((with_reducible apply k_read); (focus rfl); (focus rfl); (focus (simp only [↓reduceIte, Fr.ev, readOp, rLd, rdAB_row, oneCell_one, hget_same, List.length_cons, List.length_nil, List.drop_zero, List.drop_succ_cons, List.take_succ_cons, List.take_zero, Nat.zero_add, Nat.reduceAdd, Nat.reduceLeDiff, Nat.reduceEqDiff, Nat.reduceSub, loadA_w, loadW_s, T.get_n, Nat.reduceDiv, Nat.reduceMod, sz22, ag22, Nat.reduceEqDiff] <;> rfl)); (focus (simp only [av_self_L hA, av_self_L hB]; done)); (focus (simp only [↓reduceIte, put_mk, Nat.reduceLT, Nat.reduceEqDiff, Nat.reduceSub, T.set_n, T.set_e, Nat.reduceDiv, Nat.reduceMod, Nat.reduceEqDiff] <;> rfl)))
  | ((with_reducible apply k_alloc); (focus rfl); (focus rfl); (focus (simp only [allocOp, evParts, keyOf_mk, Nat.add_zero, Tryz.underlying22, nBS22] <;> rfl)); (focus (simp only [↓reduceIte, keyOf_mk, ky_inj, hget_hset_ite, Nat.add_zero, Nat.reduceEqDiff, hcl, Nat.reduceEqDiff]; done)); (focus (simp only [↓reduceIte, put_mk, Nat.reduceLT, Nat.reduceEqDiff, Nat.reduceSub, T.set_n, T.set_e, Nat.reduceDiv, Nat.reduceMod, Nat.reduceEqDiff] <;> rfl)))
  | ((with_reducible apply k_heavy1); (focus rfl); (focus rfl); (focus (simp only [heavy, ↓reduceIte, Fr.ev, keyOf_mk, Nat.add_zero, Nat.reduceAdd, Nat.reduceEqDiff, Nat.reduceSub, heavyCall, T.get_n, Nat.reduceDiv, Nat.reduceMod, aBuiltin, aApp, aApp2, ap1, outOf, Nat.reduceEqDiff] <;> rfl)); (focus (simp only [↓reduceIte, put_mk, Nat.reduceLT, Nat.reduceEqDiff, Nat.reduceSub, T.set_n, T.set_e, Nat.reduceDiv, Nat.reduceMod, Nat.reduceEqDiff] <;> rfl)); (focus (first | exact hS2 | exact hS3 | exact hS4)); (focus (simp only [keyOf_mk, Nat.add_zero]; first | exact hT2 | exact hT3 | exact th_set hT3)))
  | ((with_reducible apply k_heavy2); (focus rfl); (focus rfl); (focus (simp only [heavy, ↓reduceIte, Fr.ev, evs, keyOf_mk, Nat.reduceAdd, Nat.reduceEqDiff, Nat.reduceSub, and_self, callTo_s, heavyCall, target, List.nil_append, List.append_nil, T.get_n, Nat.reduceDiv, Nat.reduceMod, KRf, kr_fn, hl3, hn, hn3, hmL, hN0, aBuiltin, aApp, aApp2, ap2, outOf, Nat.reduceEqDiff] <;> rfl)); (focus (simp only [↓reduceIte, put_mk, Nat.reduceLT, Nat.reduceEqDiff, Nat.reduceSub, T.set_n, T.set_e, Nat.reduceDiv, Nat.reduceMod, Nat.reduceEqDiff] <;> rfl)); (focus (first | exact hS2 | exact hS3 | exact hS4)); (focus (simp only [keyOf_mk, Nat.add_zero]; first | exact hT2 | exact hT3 | exact th_set hT3)))
  | (with_reducible refine ifQ_intro ?_ ?_ <;> intro hb))
  subst hQ
  refine ret_back (by simp only [Tryz.results7, resultOf, resultsA, resultA, List.toList_toArray, Fr.ev, T.get_n, Nat.reduceDiv, Nat.reduceMod, Nat.reduceSub, Nat.reduceEqDiff, ↓reduceIte] <;> rfl) ⟨_, _, _, rfl, ?_, ?_, hget_same _ _ _⟩
  · exact hS0.trans hS4
  · exact nk_low F

set_option maxHeartbeats 2000000 in
theorem ref7b (h : Heap) (F : Nat) (ra rb : AV) (A B : List (List AV)) (hA : LstP h ksT ra A) (hB : LstP h ksT rb B) (n : Int) (hn : okN n) (hn3 : n ≤ 1000) (hm : A.length + B.length ≤ 1000) (hp : ¬ 0 < (belowP n (A ++ B)).length) (hcl : ∀ c, hget h (ky F c) = none) : Snd Tryz.prog [] 7 [.agg [ra, rb], .int .i64 n] ⟨h, F⟩ [.val (.slice (ky F 0) 0 0 1 (some 1)) ⟨hset h (ky F 0) (mkRow (ints [0]) 1), F + 1⟩] := by
  refine snd_block (ints_flat _) fun hw => ?_
  have hlt := okN_lt hn
  have hN0 := hp
  have hmL : (A ++ B).length ≤ 1000 := by rw [List.length_append]; exact hm
  have hle : ∀ i ab, hget (hset h (ky F 0) (mkRow [ra, rb] 0)) i = some ab → ab ≠ .dead → i ≤ ky F 0 := fun i ab hi hd => by
    rw [hget_hset] at hi
    split at hi
    · rename_i e; omega
    · have := hw i ab hi hd; simp only at this; omega
  have hne : ∀ c, 0 < c → ∀ i ab, hget (hset h (ky F 0) (mkRow [ra, rb] 0)) i = some ab → ab ≠ .dead → i ≠ ky F c := fun c hc i ab hi hd e => by
    have h1 := hle i ab hi hd
    have h2 := ky_lt (F := F) hc
    omega
  have hS0 : SameH h (hset h (ky F 0) (mkRow [ra, rb] 0)) := SameH.hset hw (SameH.refl _) (ky_le _ _)
  obtain ⟨l1, h2, l2, h3, ap1, ap2, hS2, hS3, hT2, hT3, hl2⟩ := two_apps (h0 := hset h (ky F 0) (mkRow [ra, rb] 0)) (h1 := hset (hset h (ky F 0) (mkRow [ra, rb] 0)) (ky F 4) (mkRow [] 1)) (k8 := ky F 4) (key1 := ky F 7) (key2 := ky F 10) (by rw [hget_hset, if_pos rfl]) (hA.same hS0) (hB.same hS0) (same_hk (SameH.refl _) (hne 4 (by omega))) (hne 7 (by omega)) (hne 10 (by omega)) hm
  have hl3 := lstOf_eq hl2
  have hS4 : SameH (hset h (ky F 0) (mkRow [ra, rb] 0)) (hset h3 (nk (F + 1)) (mkRow (ints (belowP n (A ++ B))) 1)) := same_hk hS3 fun i ab hi hd e => by
    have h1 := hle i ab hi hd
    have h2 : ky F 0 < nk (F + 1) := by rw [nk_eq]; unfold ky; omega
    omega
  have hm2 : (((belowP n (A ++ B)).length : Int) == 0) = true := by have : ((belowP n (A ++ B)).length : Int) = 0 := (by omega); simpa using this
  refine sndQ_body (K := KR) kr_ok mixed noNum (m := 0) Tryz.func7 ?_
  generalize hQ : retQ _ _ _ _ _ _ = Q0
  refine body_go (c := Tryz.f7.body.getD .skip) (n := 22) rfl rfl (by simp only [↓reduceIte, T.setList, T.set_e, T.set_n, Nat.reduceDiv, Nat.reduceMod, Nat.reduceEqDiff, Nat.zero_add] <;> rfl) ?_
  simp only [Tryz.f7, Option.getD_some]
  repeat' (first
  | with_reducible refine r_seq ?_
  | with_reducible refine r_next ?_
  | with_reducible refine r_block ?_
  | with_reducible refine r_seq_exit ?_
  | with_reducible refine r_seq_ret ?_
  | with_reducible refine r_blk_n ?_
  | with_reducible refine r_blk_ret ?_
  | with_reducible refine r_blk_hit ?_
  | with_reducible refine r_blk_miss rfl ?_
  | with_reducible refine r_skip ?_
  | with_reducible refine r_exit ?_
  | with_reducible refine r_ret ?_
  | with_reducible refine r_rq_exit ?_
  | with_reducible refine r_rq_ret ?_
  | ((with_reducible apply r_regA); (focus (simp only [List.append_eq, List.cons_append, List.nil_append] <;> rfl)); (focus (first | exact Nat.le_of_ble_eq_true rfl | (simp only [List.length_cons, List.length_nil]; omega))))
  | ((with_reducible refine r_reg (List.toList_toArray) ?_ ?_); focus (first | exact Nat.le_of_ble_eq_true rfl | (simp only [List.length_cons, List.length_nil]; omega)))
  | ((with_reducible apply r_end); focus (simp only [Nat.reduceAdd, Nat.zero_add] <;> rfl))
  | ((with_reducible (first | apply r_any | apply r_cond)); focus (simp only [↓reduceIte, clsOf, clsCall, newBlk, allocOp, Fr.ev, evParts, ofV, ofA, ofS, nVar, AV.cells, rowOf_mk, put_mk, upd_mk, keyOf_mk, pureOp, readOp, pBin, binA, intOp_eql, intOp_lss, List.getElem?_cons_zero, Nat.add_zero, Nat.reduceLT, Nat.reduceEqDiff, Nat.reduceSub, binA, beq_self_eq_true, stepOp, stV_mk, stB_mk, T.get_n, T.set_n, T.set_e, Nat.reduceDiv, Nat.reduceMod, Tryz.underlying27, stepAny, wantedA_none, rCall, rLen, lenA, nBS27, hlt, rLen1_nils, Nat.reduceEqDiff] <;> rfl))
  | (with_reducible rw [ifQ_t])
  | (with_reducible rw [ifQ_f])
  | ((with_reducible apply (r_drawK (i0 := 0) (js := [0, 1, 2, 4, 5, 7, 3, 6, 8, 9]))); (focus kernel_rfl); (focus kernel_rfl); (focus (first | exact Nat.le_of_ble_eq_true rfl | (simp only [List.length_cons, List.length_nil]; omega))))
  | ((with_reducible apply k_end); (focus (simp only [List.length_cons, List.length_nil, Nat.reduceAdd, Nat.zero_add] <;> rfl)))
  | ((with_reducible apply k_pure); (focus rfl); (focus rfl); (focus (simp only [↓reduceIte, Fr.ev, put_mk, pureOp, pFA, pFA1, pFA2, List.getElem?_cons_zero, List.getElem?_cons_succ, Nat.zero_add, Nat.add_zero, Nat.reduceLT, Nat.reduceEqDiff, Nat.reduceSub, Nat.add_eq, stV_mk, T.get_n, T.set_n, T.set_e, Nat.reduceDiv, Nat.reduceMod, sz22, Tryz.underlying24, Nat.reduceEqDiff] <;> rfl)))
  | ((with_reducible apply k_read); (focus rfl); (focus rfl); (focus (simp only [↓reduceIte, Fr.ev, readOp, rLd, rdAB_row, oneCell_one, hget_same, List.length_cons, List.length_nil, List.drop_zero, List.drop_succ_cons, List.take_succ_cons, List.take_zero, Nat.zero_add, Nat.reduceAdd, Nat.reduceLeDiff, Nat.reduceEqDiff, Nat.reduceSub, loadA_w, loadW_s, T.get_n, Nat.reduceDiv, Nat.reduceMod, sz22, ag22, Nat.reduceEqDiff] <;> rfl)); (focus (simp only [av_self_L hA, av_self_L hB]; done)); (focus (simp only [↓reduceIte, put_mk, Nat.reduceLT, Nat.reduceEqDiff, Nat.reduceSub, T.set_n, T.set_e, Nat.reduceDiv, Nat.reduceMod, Nat.reduceEqDiff] <;> rfl)))
  | ((with_reducible apply k_alloc); (focus rfl); (focus rfl); (focus (simp only [allocOp, evParts, keyOf_mk, Nat.add_zero, Tryz.underlying22, nBS22] <;> rfl)); (focus (simp only [↓reduceIte, keyOf_mk, ky_inj, hget_hset_ite, Nat.add_zero, Nat.reduceEqDiff, hcl, Nat.reduceEqDiff]; done)); (focus (simp only [↓reduceIte, put_mk, Nat.reduceLT, Nat.reduceEqDiff, Nat.reduceSub, T.set_n, T.set_e, Nat.reduceDiv, Nat.reduceMod, Nat.reduceEqDiff] <;> rfl)))
  | ((with_reducible apply k_heavy1); (focus rfl); (focus rfl); (focus (simp only [heavy, ↓reduceIte, Fr.ev, keyOf_mk, Nat.add_zero, Nat.reduceAdd, Nat.reduceEqDiff, Nat.reduceSub, heavyCall, T.get_n, Nat.reduceDiv, Nat.reduceMod, aBuiltin, aApp, aApp2, ap1, outOf, Nat.reduceEqDiff] <;> rfl)); (focus (simp only [↓reduceIte, put_mk, Nat.reduceLT, Nat.reduceEqDiff, Nat.reduceSub, T.set_n, T.set_e, Nat.reduceDiv, Nat.reduceMod, Nat.reduceEqDiff] <;> rfl)); (focus (first | exact hS2 | exact hS3 | exact hS4)); (focus (simp only [keyOf_mk, Nat.add_zero]; first | exact hT2 | exact hT3 | exact th_set hT3)))
  | ((with_reducible apply k_heavy2); (focus rfl); (focus rfl); (focus (simp only [heavy, ↓reduceIte, Fr.ev, evs, keyOf_mk, Nat.reduceAdd, Nat.reduceEqDiff, Nat.reduceSub, and_self, callTo_s, heavyCall, target, List.nil_append, List.append_nil, T.get_n, Nat.reduceDiv, Nat.reduceMod, KRf, kr_fn, hl3, hn, hn3, hmL, hN0, aBuiltin, aApp, aApp2, ap2, outOf, Nat.reduceEqDiff] <;> rfl)); (focus (simp only [↓reduceIte, put_mk, Nat.reduceLT, Nat.reduceEqDiff, Nat.reduceSub, T.set_n, T.set_e, Nat.reduceDiv, Nat.reduceMod, Nat.reduceEqDiff] <;> rfl)); (focus (first | exact hS2 | exact hS3 | exact hS4)); (focus (simp only [keyOf_mk, Nat.add_zero]; first | exact hT2 | exact hT3 | exact th_set hT3)))
  | (with_reducible refine ifQ_intro ?_ ?_ <;> intro hb))
  subst hQ
  refine ret_back (by simp only [Tryz.results7, resultOf, resultsA, resultA, List.toList_toArray, Fr.ev, T.get_n, Nat.reduceDiv, Nat.reduceMod, Nat.reduceSub, Nat.reduceEqDiff, ↓reduceIte] <;> rfl) ⟨_, _, _, rfl, ?_, ?_, hget_same _ _ _⟩
  · exact SameH.hset hw (hS0.trans hS3) (ky_le _ _)
  · exact ky_le _ _


end Go.Proofs.YtdcindnnbmilaaaGreatDoor

