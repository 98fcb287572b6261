/- A part of the proof of the law ReplayAudits. CONDITIONS: those that each theorem names. -/
import Derived.Test.YtfhgiadogeephaaGreatDoorEngineA
import Derived.Test.YtfhgiadogeephaaGreatDoorEngineB
import Derived.Test.YtfhgiadogeephaaGreatDoorEngineC
import Derived.Test.YtfhgiadogeephaaGreatDoorEngineD
import Derived.Test.YtfhgiadogeephaaGreatDoorPartA
namespace Go.Proofs.YtfhgiadogeephaaGreatDoor
open Go Go.Ai
set_option maxRecDepth 100000

theorem nBS_V0 {key : Nat} : nBS Tryz.prog key 0 (some (.slice 217)) (some []) = some (.slice key 0 0 0 (some 0), mkRow [] 3) := by
  have tg : tagA Tryz.prog 217 = 0 := by kernel_rfl
  simp only [nBS, nBS2, sz217, zr217, repl, AV.cells, nBS3, rowT_mk, buildArr, tg, mkRowT_0]
  rfl
theorem byV : bytesT Tryz.prog 217 = some 32 := by kernel_rfl
theorem zoV : zeroOk Tryz.prog 217 3 32 = true := by kernel_rfl
theorem LstI.low {A B F : Nat} {h h1 : Heap} {ks : List CK} {a : AV} {L : List (List AV)} (hl : LstI A B h ks a L) (hlow : Low F h h1) (hB : B ≤ F) : LstI A B h1 ks a L := hl.move (EqI.call (EqI.refl _ _ _) hlow hB)
set_option maxHeartbeats 4000000 in
theorem planA (h : Heap) (F : Nat) (q0 q1 how : Int) (q2 : Tx) (r w : AV) (R W : List Tx) (hR : LstP h ksT r (tL R)) (hW : LstP h ksT w (tL W)) (lR : R.length ≤ 100000) (lW : W.length ≤ 100000) :
    SndQ Tryz.prog [] 32 [.agg [.int .i64 q0, .int .u64 q1, .str q2, .nils, .int .i64 how, r, w]] ⟨h, F⟩ (fun o => ∃ ar r' w' h', o = .val (.agg [.int .i64 q0, .int .u64 q1, .str q2, ar, .int .i64 how, r', w']) ⟨h', F + 1⟩ ∧ isCell ar = true ∧ ckOk .l ar ∧ LstI F (F + 1) h' ksT r' (tL R) ∧ LstI F (F + 1) h' ksT w' (tL W) ∧ Low F h h' ∧ SameH h h') := by
  refine sndQ_wf fun hw => ?_
  have mxl : maxLen = 9223372036854775807 := by decide
  have low1 : Low F h (hset (hset h (ky F 0) (mkRow [.int .i64 q0, .int .u64 q1, .str q2, .nils, .int .i64 how, r, w] 0)) (ky F 1) (mkRow [.int .i64 0, .int .u64 0, .str [], .nils, .int .i64 0, .nils, .nils] 0)) := ((Low.refl F h).set (Nat.le_refl F)).set (Nat.le_refl F)
  have apV := fun (h2 : Heap) => app_same (P := Tryz.prog) (t := 26) (t2 := 26) (s := ⟨h2, F + 1⟩) (key := ky F 6) (b := .nils) (id := ky F 2) (off := 0) (eo := 0) (len := 0) (cap := some 0) (news := []) Tryz.underlying26 Tryz.underlying26 sz217 byV zoV rfl (by decide) (by decide)
  have low4 : Low F h (hset (hset (hset (hset (hset h (ky F 0) (mkRow [.int .i64 q0, .int .u64 q1, .str q2, .nils, .int .i64 how, r, w] 0)) (ky F 1) (mkRow [.int .i64 0, .int .u64 0, .str [], .nils, .int .i64 0, .nils, .nils] 0)) (ky F 2) (mkRow [] 3)) (ky F 0) (mkRow [.int .i64 q0, .int .u64 q1, .str q2, (.slice (ky F 2) 0 0 0 (some 0)), .int .i64 how, r, w] 0)) (ky F 10) (mkRow [] 1)) := ((low1.set (Nat.le_refl F)).set (Nat.le_refl F)).set (Nat.le_refl F)
  obtain ⟨r1, h5, ap1, g1, m1⟩ := EGr.app0 (P := Tryz.prog) (t := 68) (t2 := 68) (ks := ksT) (lc := 11) (k := 14) (c := 10) (f := F + 1) (h := (hset (hset (hset (hset (hset h (ky F 0) (mkRow [.int .i64 q0, .int .u64 q1, .str q2, .nils, .int .i64 how, r, w] 0)) (ky F 1) (mkRow [.int .i64 0, .int .u64 0, .str [], .nils, .int .i64 0, .nils, .nils] 0)) (ky F 2) (mkRow [] 3)) (ky F 0) (mkRow [.int .i64 q0, .int .u64 q1, .str q2, (.slice (ky F 2) 0 0 0 (some 0)), .int .i64 how, r, w] 0)) (ky F 10) (mkRow [] 1))) rfl (by rw [hget_hset, if_pos rfl]; rfl) (hR.same (low4.same hw)) Tryz.underlying68 Tryz.underlying68 sz9 byS zoS (by rw [tL_len]; omega) (by decide) (by decide) (by decide)
  have low5 : Low F h h5 := fun i hi => (m1 i (by have := ky_le F 14; omega)).trans (low4 i hi)
  have c50 : hget h5 (ky F 0) = some (mkRow [.int .i64 q0, .int .u64 q1, .str q2, (.slice (ky F 2) 0 0 0 (some 0)), .int .i64 how, r, w] 0) := by
    rw [m1 _ (by rw [Ne, ky_inj]; omega), hget_hset, if_neg (by rw [ky_inj]; omega), hget_hset, if_pos rfl]
  have c51 : hget h5 (ky F 1) = some (mkRow [.int .i64 0, .int .u64 0, .str [], .nils, .int .i64 0, .nils, .nils] 0) := by
    rw [m1 _ (by rw [Ne, ky_inj]; omega), hget_hset, if_neg (by rw [ky_inj]; omega), hget_hset, if_neg (by rw [ky_inj]; omega), hget_hset, if_neg (by rw [ky_inj]; omega), hget_hset, if_pos rfl]
  have low6 : Low F h (hset (hset h5 (ky F 0) (mkRow [.int .i64 q0, .int .u64 q1, .str q2, (.slice (ky F 2) 0 0 0 (some 0)), .int .i64 how, r1, w] 0)) (ky F 18) (mkRow [] 1)) := (low5.set (Nat.le_refl F)).set (Nat.le_refl F)
  obtain ⟨w1, h7, ap2, g2, m2⟩ := EGr.app0 (P := Tryz.prog) (t := 68) (t2 := 68) (ks := ksT) (lc := 19) (k := 22) (c := 18) (f := F + 1) (h := (hset (hset h5 (ky F 0) (mkRow [.int .i64 q0, .int .u64 q1, .str q2, (.slice (ky F 2) 0 0 0 (some 0)), .int .i64 how, r1, w] 0)) (ky F 18) (mkRow [] 1))) rfl (by rw [hget_hset, if_pos rfl]; rfl) (hW.same (low6.same hw)) Tryz.underlying68 Tryz.underlying68 sz9 byS zoS (by rw [tL_len]; omega) (by decide) (by decide) (by decide)
  have low7 : Low F h h7 := fun i hi => (m2 i (by have := ky_le F 22; omega)).trans (low6 i hi)
  have c70 : hget h7 (ky F 0) = some (mkRow [.int .i64 q0, .int .u64 q1, .str q2, (.slice (ky F 2) 0 0 0 (some 0)), .int .i64 how, r1, w] 0) := by
    rw [m2 _ (by rw [Ne, ky_inj]; omega), hget_hset, if_neg (by rw [ky_inj]; omega), hget_hset, if_pos rfl]
  have c71 : hget h7 (ky F 1) = some (mkRow [.int .i64 0, .int .u64 0, .str [], .nils, .int .i64 0, .nils, .nils] 0) := by
    rw [m2 _ (by rw [Ne, ky_inj]; omega), hget_hset, if_neg (by rw [ky_inj]; omega), hget_hset, if_neg (by rw [ky_inj]; omega)]; exact c51
  have x1 := g1.cls; have x2 := g2.cls
  simp only [AV.cells] at x1 x2
  refine sndQ_body (K := (KA A0)) ka_ok mixed noNum (m := 0) Tryz.func32 ?_
  generalize hQ : retQ _ _ _ _ _ _ = Q0
  refine body_go (c := Tryz.f32.body.getD .skip) (n := 25) rfl rfl (by simp only [↓reduceIte, T.setList, T.set_e] <;> rfl) ?_
  simp only [Tryz.f32, Option.getD_some]
  repeat' (first | refine st ?_ | ((with_reducible (first | apply r_any | apply r_cond)); focus (simp only [↓reduceIte, clsOf, clsCall, newBlk, allocOp, Fr.ev, evParts, nVar, AV.cells, rowOf_mk, put_mk, put_none, upd_mk, keyOf_mk, ky_inj, pureOp, readOp, pFA, pFA1, pFA2, rLd, rdAB_row, oneCell_one, someAgg_s, hget_same, hget_hset_ite, List.length_cons, List.length_nil, List.getElem?_cons_zero, List.getElem?_cons_succ, List.drop_zero, List.drop_succ_cons, List.take_succ_cons, List.take_zero, Nat.zero_add, Nat.add_zero, Nat.reduceAdd, Nat.reduceLT, Nat.reduceLeDiff, Nat.reduceEqDiff, Nat.reduceSub, and_self, Nat.add_eq, loadA_w, loadW_a, loadW_s, aSt_w, stOut_s, wrAB_row, ovr, List.set_cons_zero, List.set_cons_succ, allCell, ic_i, ic_s, ic_sl, heavyCall, actOp, stepOp, stHeavy, stV_mk, stB_mk, stO_mk, T.get_n, T.set_n, T.set_e, Nat.reduceDiv, Nat.reduceMod, sz26, ag26, Tryz.underlying26, sz68, ag68, Tryz.underlying68, sz74, Tryz.underlying74, sz76, Tryz.underlying76, sz78, ag78, zr78, tg78, Tryz.underlying78, stepAny, wantedA_none, nBS_V0, nBS_S0, apV, aBuiltin, aApp, aApp2, outOf, ap1, ap2, c50, c70, c71, g1.cell, g2.cell, x1, x2] <;> rfl)))
  subst hQ
  refine ret_back (by simp only [Tryz.results32, resultOf, resultsA, resultA, List.toList_toArray, Fr.ev, T.get_n, Nat.reduceDiv, Nat.reduceMod, Nat.reduceSub, Nat.reduceEqDiff, ↓reduceIte, loadA_w, hget_same] <;> rfl) ?_
  have low8 : Low F h (hset (hset h7 (ky F 0) (mkRow [.int .i64 q0, .int .u64 q1, .str q2, (.slice (ky F 2) 0 0 0 (some 0)), .int .i64 how, r1, w1] 0)) (ky F 1) (mkRow [.int .i64 q0, .int .u64 q1, .str q2, (.slice (ky F 2) 0 0 0 (some 0)), .int .i64 how, r1, w1] 0)) := (low7.set (Nat.le_refl F)).set (Nat.le_refl F)
  have tok : ∀ (L : List Tx) (x : AV), LstP h ksT x (tL L) → ∀ y ∈ tL L, cksOk ksT y := fun L x hx => hx.1
  refine ⟨_, _, _, _, rfl, rfl, trivial, ?_, ?_, low8, low8.same hw⟩
  · refine EGr.lstI (ks := ksT) (g1.move fun c hc1 hc2 => ?_) hR.1 (by rw [tL_len]; omega) (by decide)
    rw [hget_hset, if_neg (by rw [ky_inj]; omega), hget_hset, if_neg (by rw [ky_inj]; omega), m2 _ (by rw [Ne, ky_inj]; omega), hget_hset, if_neg (by rw [ky_inj]; omega), hget_hset, if_neg (by rw [ky_inj]; omega)]
  · refine EGr.lstI (ks := ksT) (g2.move fun c hc1 hc2 => ?_) hW.1 (by rw [tL_len]; omega) (by decide)
    rw [hget_hset, if_neg (by rw [ky_inj]; omega), hget_hset, if_neg (by rw [ky_inj]; omega)]

end Go.Proofs.YtfhgiadogeephaaGreatDoor

/-! Spans and books, event by event: plain law (ReplayAudits). -/
namespace Go.Ai
open Go
theorem whenF_le (s p : Int) : ∀ (ds : List Ev) (j : Nat), j ≤ whenF s p ds j ∧ whenF s p ds j ≤ j + ds.length
  | [], j => by simp [whenF]
  | d :: ds, j => by
    have h := whenF_le s p ds (j + 1)
    rw [whenF]
    split
    · simp
    · simp only [List.length_cons]; omega
theorem whenF_app (s p : Int) (d : Ev) : ∀ (l : List Ev) (j : Nat), whenF s p (l ++ [d]) j = if whenF s p l j < j + l.length then whenF s p l j else if d.seq = s ∧ d.phase = p then j + l.length else j + l.length + 1
  | [], j => by simp [whenF]
  | x :: l, j => by
    have h := whenF_app s p d l (j + 1)
    rw [List.cons_append, whenF, whenF, h]
    by_cases hx : x.seq = s ∧ x.phase = p
    · rw [if_pos hx, if_pos hx, if_pos (by simp)]
    · rw [if_neg hx, if_neg hx, show j + 1 + l.length = j + (x :: l).length by simp only [List.length_cons]; omega]
/-- where an entry is taken, or released, among the first events -/
noncomputable def ftk (ds : List Ev) (p : Int) (i s : Nat) : Nat := whenF (s : Int) p (ds.take i) 0
theorem ftk_le (ds : List Ev) (p : Int) {i : Nat} (s : Nat) (hi : i ≤ ds.length) : ftk ds p i s ≤ i := by
  have := (whenF_le (s : Int) p (ds.take i) 0).2
  rw [List.length_take, Nat.min_eq_left hi] at this
  unfold ftk; omega
theorem ftk_succ {ds : List Ev} {p : Int} {i s : Nat} {d : Ev} (hd : ds[i]? = some d) : ftk ds p (i + 1) s = if ftk ds p i s < i then ftk ds p i s else if d.seq = (s : Int) ∧ d.phase = p then i else i + 1 := by
  have hi := (List.getElem?_eq_some_iff.1 hd).1
  have e : ds.take (i + 1) = ds.take i ++ [d] := by rw [List.take_add_one, hd]; rfl
  unfold ftk
  rw [e, whenF_app, List.length_take, Nat.min_eq_left (Nat.le_of_lt hi), Nat.zero_add]
theorem ftk_all (ds : List Ev) (p : Int) (s : Nat) : ftk ds p ds.length s = whenF (s : Int) p ds 0 := by unfold ftk; rw [List.take_length]
noncomputable def spC (ds : List Ev) (i s : Nat) : List AV := [.int .i64 (if ftk ds 1 i s < i then (ftk ds 1 i s : Int) else 0), .int .i64 (if ftk ds 0 i s < i then (ftk ds 0 i s : Int) else (ds.length : Int)), .bool (decide (ftk ds 1 i s < i))]
noncomputable def spL (ds : List Ev) (n i : Nat) : List (List AV) := (List.range n).map (spC ds i)
noncomputable def enL (ds : List Ev) (n i : Nat) : List Bool := (List.range n).map fun s => decide (ftk ds 0 i s < i)
theorem spL_len (ds : List Ev) (n i : Nat) : (spL ds n i).length = n := by simp [spL]
theorem enL_len (ds : List Ev) (n i : Nat) : (enL ds n i).length = n := by simp [enL]
theorem spL_es (ds : List Ev) (n i : Nat) : ∀ x ∈ spL ds n i, x.length = 3 := fun x hx => by obtain ⟨s, _, rfl⟩ := List.mem_map.1 hx; rfl
theorem spL_at {ds : List Ev} {n i s : Nat} (h : s < n) : (spL ds n i)[s]? = some (spC ds i s) := by simp [spL, h]
theorem enL_at {ds : List Ev} {n i s : Nat} (h : s < n) : (enL ds n i)[s]? = some (decide (ftk ds 0 i s < i)) := by simp [enL, h]
theorem rset {α : Type} {f g : Nat → α} {n s : Nat} {v : α} (h1 : g s = v) (h2 : ∀ t, t < n → t ≠ s → g t = f t) : ((List.range n).map f).set s v = (List.range n).map g := by
  refine List.ext_getElem? fun t => ?_
  rw [List.getElem?_set]
  by_cases ht : t < n
  · by_cases hs : s = t
    · subst hs
      rw [if_pos rfl, if_pos (by simpa using ht)]
      simp [ht, h1]
    · rw [if_neg hs]
      simp [ht, h2 t ht (fun e => hs e.symm)]
  · have e1 : ((List.range n).map f)[t]? = none := by simp; omega
    have e2 : ((List.range n).map g)[t]? = none := by simp; omega
    rw [e1, e2]
    split
    · subst_vars; rw [if_neg (by simpa using ht)]
    · rfl
theorem rsame {α : Type} {f g : Nat → α} {n : Nat} (h : ∀ t, t < n → g t = f t) : (List.range n).map g = (List.range n).map f := List.map_congr_left fun t ht => h t (List.mem_range.1 ht)
section
variable {ds : List Ev} {i s n : Nat} {d : Ev}
/-- an event that says nothing of an entry -/
theorem spC_same (hd : ds[i]? = some d) (h1 : ¬ (d.seq = (s : Int) ∧ d.phase = 1 ∧ ¬ ftk ds 1 i s < i)) (h2 : ¬ (d.seq = (s : Int) ∧ d.phase = 0 ∧ ¬ ftk ds 0 i s < i)) : spC ds (i + 1) s = spC ds i s := by
  have hi := (List.getElem?_eq_some_iff.1 hd).1
  have a1 := ftk_le ds 1 s (Nat.le_of_lt hi)
  have a2 := ftk_le ds 0 s (Nat.le_of_lt hi)
  have e1 : ftk ds 1 (i + 1) s = if ftk ds 1 i s < i then ftk ds 1 i s else i + 1 := by
    rw [ftk_succ hd]
    by_cases h : ftk ds 1 i s < i
    · rw [if_pos h, if_pos h]
    · rw [if_neg h, if_neg h, if_neg (fun e => h1 ⟨e.1, e.2, h⟩)]
  have e2 : ftk ds 0 (i + 1) s = if ftk ds 0 i s < i then ftk ds 0 i s else i + 1 := by
    rw [ftk_succ hd]
    by_cases h : ftk ds 0 i s < i
    · rw [if_pos h, if_pos h]
    · rw [if_neg h, if_neg h, if_neg (fun e => h2 ⟨e.1, e.2, h⟩)]
  unfold spC
  rw [e1, e2]
  by_cases k1 : ftk ds 1 i s < i <;> by_cases k2 : ftk ds 0 i s < i
  · rw [if_pos k1, if_pos k2, if_pos (by omega), if_pos (by omega), if_pos k1, if_pos k2, decide_eq_true k1, decide_eq_true (show ftk ds 1 i s < i + 1 by omega)]
  · rw [if_pos k1, if_neg k2, if_pos (by omega), if_neg (by omega), if_pos k1, if_neg k2, decide_eq_true k1, decide_eq_true (show ftk ds 1 i s < i + 1 by omega)]
  · rw [if_neg k1, if_pos k2, if_neg (by omega), if_pos (by omega), if_neg k1, if_pos k2, decide_eq_false k1, decide_eq_false (show ¬ i + 1 < i + 1 by omega)]
  · rw [if_neg k1, if_neg k2, if_neg (by omega), if_neg (by omega), if_neg k1, if_neg k2, decide_eq_false k1, decide_eq_false (show ¬ i + 1 < i + 1 by omega)]
theorem en_same (hd : ds[i]? = some d) (h2 : ¬ (d.seq = (s : Int) ∧ d.phase = 0 ∧ ¬ ftk ds 0 i s < i)) : decide (ftk ds 0 (i + 1) s < i + 1) = decide (ftk ds 0 i s < i) := by
  rw [ftk_succ hd]
  by_cases h : ftk ds 0 i s < i
  · rw [if_pos h, decide_eq_true h, decide_eq_true (by omega)]
  · rw [if_neg h, if_neg (fun e => h2 ⟨e.1, e.2, h⟩), decide_eq_false h, decide_eq_false (by omega)]
/-- it is taken -/
theorem spC_take (hd : ds[i]? = some d) (hs : d.seq = (s : Int)) (hp : d.phase = 1) (hn : ¬ ftk ds 1 i s < i) : spC ds (i + 1) s = ((spC ds i s).set 0 (.int .i64 (i : Int))).set 2 (.bool true) := by
  have hi := (List.getElem?_eq_some_iff.1 hd).1
  have a2 := ftk_le ds 0 s (Nat.le_of_lt hi)
  have e1 : ftk ds 1 (i + 1) s = i := by rw [ftk_succ hd, if_neg hn, if_pos ⟨hs, hp⟩]
  have e2 : ftk ds 0 (i + 1) s = if ftk ds 0 i s < i then ftk ds 0 i s else i + 1 := by
    rw [ftk_succ hd]
    by_cases h : ftk ds 0 i s < i
    · rw [if_pos h, if_pos h]
    · rw [if_neg h, if_neg h, if_neg (fun e => by omega)]
  unfold spC
  rw [e1, e2]
  simp only [List.set_cons_zero, List.set_cons_succ]
  by_cases k2 : ftk ds 0 i s < i
  · rw [if_pos k2, if_pos (by omega), if_pos (by omega), decide_eq_true (by omega), if_pos k2]
  · rw [if_neg k2, if_pos (by omega), if_neg (by omega), decide_eq_true (by omega), if_neg k2]
/-- it is released -/
theorem spC_rel (hd : ds[i]? = some d) (hs : d.seq = (s : Int)) (hp : d.phase = 0) (hn : ¬ ftk ds 0 i s < i) : spC ds (i + 1) s = (spC ds i s).set 1 (.int .i64 (i : Int)) := by
  have hi := (List.getElem?_eq_some_iff.1 hd).1
  have e2 : ftk ds 0 (i + 1) s = i := by rw [ftk_succ hd, if_neg hn, if_pos ⟨hs, hp⟩]
  have e1 : ftk ds 1 (i + 1) s = if ftk ds 1 i s < i then ftk ds 1 i s else i + 1 := by
    rw [ftk_succ hd]
    by_cases h : ftk ds 1 i s < i
    · rw [if_pos h, if_pos h]
    · rw [if_neg h, if_neg h, if_neg (fun e => by omega)]
  unfold spC
  rw [e1, e2]
  simp only [List.set_cons_zero, List.set_cons_succ]
  by_cases k2 : ftk ds 1 i s < i
  · rw [if_pos k2, if_pos (by omega), if_pos (by omega), decide_eq_true (by omega), if_pos k2, decide_eq_true k2]
  · rw [if_neg k2, if_pos (show i < i + 1 by omega), if_neg (show ¬ i + 1 < i + 1 by omega), decide_eq_false (show ¬ i + 1 < i + 1 by omega), if_neg k2, decide_eq_false k2]
theorem en_rel (hd : ds[i]? = some d) (hs : d.seq = (s : Int)) (hp : d.phase = 0) (hn : ¬ ftk ds 0 i s < i) : decide (ftk ds 0 (i + 1) s < i + 1) = true := by
  rw [ftk_succ hd, if_neg hn, if_pos ⟨hs, hp⟩]; exact decide_eq_true (by omega)
theorem spL_same (hd : ds[i]? = some d) (h : ∀ t : Nat, t < n → d.seq = (t : Int) → ¬ (d.phase = 1 ∧ ¬ ftk ds 1 i t < i) ∧ ¬ (d.phase = 0 ∧ ¬ ftk ds 0 i t < i)) : spL ds n (i + 1) = spL ds n i ∧ enL ds n (i + 1) = enL ds n i :=
  ⟨rsame fun t ht => spC_same hd (fun e => (h t ht e.1).1 e.2) (fun e => (h t ht e.1).2 e.2), rsame fun t ht => en_same hd (fun e => (h t ht e.1).2 e.2)⟩
theorem spL_take (hd : ds[i]? = some d) (hs : d.seq = (s : Int)) (hp : d.phase = 1) (hn : ¬ ftk ds 1 i s < i) : (spL ds n i).set s (((spC ds i s).set 0 (.int .i64 (i : Int))).set 2 (.bool true)) = spL ds n (i + 1) ∧ enL ds n (i + 1) = enL ds n i :=
  ⟨rset (spC_take hd hs hp hn) fun t _ hts => spC_same hd (fun e => hts (by omega)) (fun e => hts (by omega)), rsame fun t _ => en_same hd (fun e => by omega)⟩
theorem spL_rel (hd : ds[i]? = some d) (hs : d.seq = (s : Int)) (hp : d.phase = 0) (hn : ¬ ftk ds 0 i s < i) : (spL ds n i).set s ((spC ds i s).set 1 (.int .i64 (i : Int))) = spL ds n (i + 1) ∧ (enL ds n i).set s true = enL ds n (i + 1) :=
  ⟨rset (spC_rel hd hs hp hn) fun t _ hts => spC_same hd (fun e => hts (by omega)) (fun e => hts (by omega)), rset (en_rel hd hs hp hn) fun t _ hts => en_same hd (fun e => hts (by omega))⟩
end
/-! ### books -/
noncomputable def stepS (R W : List (List Tx)) (s : List (Int × Int) × Bk) (i : Nat) (d : Ev) : List (Int × Int) × Bk := if ruleB R W s.2 d = 0 then (s.1, stepB s.2 d) else (s.1 ++ [(ruleB R W s.2 d, (i : Int))], s.2)
theorem audS_app (R W : List (List Tx)) (d : Ev) : ∀ (l : List Ev) (i : Nat) (s : List (Int × Int) × Bk), audS R W (l ++ [d]) i s = stepS R W (audS R W l i s) (i + l.length) d
  | [], i, s => rfl
  | x :: l, i, s => by
    rw [List.cons_append, audS, audS, audS_app R W d l, show i + 1 + l.length = i + (x :: l).length by simp only [List.length_cons]; omega]
/-- findings and books behind the first events -/
noncomputable def audT (R W : List (List Tx)) (b : Bk) (ds : List Ev) (i : Nat) : List (Int × Int) × Bk := audS R W (ds.take i) 0 ([], b)
theorem audT_0 (R W : List (List Tx)) (b : Bk) (ds : List Ev) : audT R W b ds 0 = ([], b) := by unfold audT; rw [List.take_zero]; rfl
theorem audT_succ {R W : List (List Tx)} {b : Bk} {ds : List Ev} {i : Nat} {d : Ev} (hd : ds[i]? = some d) : audT R W b ds (i + 1) = stepS R W (audT R W b ds i) i d := by
  have hi := (List.getElem?_eq_some_iff.1 hd).1
  unfold audT
  rw [show ds.take (i + 1) = ds.take i ++ [d] by rw [List.take_add_one, hd]; rfl, audS_app, List.length_take, Nat.min_eq_left (Nat.le_of_lt hi), Nat.zero_add]
theorem audT_all (R W : List (List Tx)) (b : Bk) (ds : List Ev) : audT R W b ds ds.length = audS R W ds 0 ([], b) := by unfold audT; rw [List.take_length]
theorem audT_go {R W : List (List Tx)} {b : Bk} {ds : List Ev} {i : Nat} {d : Ev} (hd : ds[i]? = some d) (hr : ruleB R W (audT R W b ds i).2 d = 0) : (audT R W b ds (i + 1)).1 = (audT R W b ds i).1 ∧ (audT R W b ds (i + 1)).2 = stepB (audT R W b ds i).2 d := by
  rw [audT_succ hd, stepS, if_pos hr]; exact ⟨rfl, rfl⟩
theorem audT_no {R W : List (List Tx)} {b : Bk} {ds : List Ev} {i : Nat} {d : Ev} (hd : ds[i]? = some d) (hr : ¬ ruleB R W (audT R W b ds i).2 d = 0) : (audT R W b ds (i + 1)).1 = (audT R W b ds i).1 ++ [(ruleB R W (audT R W b ds i).2 d, (i : Int))] ∧ (audT R W b ds (i + 1)).2 = (audT R W b ds i).2 := by
  rw [audT_succ hd, stepS, if_neg hr]; exact ⟨rfl, rfl⟩
theorem ruleB_le (R W : List (List Tx)) (b : Bk) (d : Ev) : 0 ≤ ruleB R W b d ∧ ruleB R W b d ≤ 5 := by
  unfold ruleB
  repeat (first | (split; · exact ⟨by decide, by decide⟩) | exact ⟨by decide, by decide⟩)
/-- an event that breaks no rule names a worker, an entry and a phase -/
theorem rule0 {R W : List (List Tx)} {b : Bk} {d : Ev} (h : ruleB R W b d = 0) : ¬ (d.pick < 0 ∨ (b.ph.length : Int) ≤ d.pick ∨ d.seq < 0 ∨ (R.length : Int) ≤ d.seq ∨ d.phase < 0 ∨ 4 < d.phase) := fun e => by
  unfold ruleB at h
  rw [if_pos e] at h
  exact absurd h (by decide)
structure Gd (w n : Nat) (b : Bk) : Prop where
  ph : b.ph.length = w
  hs : b.hs.length = w
  fu : b.fu.length = n
  ta : b.ta.length = n
  re : b.re.length = n
  p4 : ∀ x ∈ b.ph, 0 ≤ x ∧ x ≤ 4
  h0 : ∀ (j : Nat) (p x : Int), b.ph[j]? = some p → b.hs[j]? = some x → p ≠ 0 → 0 ≤ x
theorem fullL_len (n : Nat) : ∀ (full : List Int) (l : List Bool), (full.foldl (fun (l : List Bool) (s : Int) => if 0 ≤ s ∧ s < (n : Int) then l.set s.toNat true else l) l).length = l.length
  | [], l => rfl
  | x :: full, l => by
    rw [List.foldl_cons, fullL_len n full]
    split
    · rw [List.length_set]
    · rfl
theorem Gd.begin (n w : Nat) (full : List Int) : Gd w n (beginB n w full) where
  ph := by simp [beginB]
  hs := by simp [beginB]
  fu := by show (fullL n full).length = n; unfold fullL; rw [fullL_len]; simp
  ta := by simp [beginB]
  re := by simp [beginB]
  p4 := fun x hx => by
    have : x ∈ List.replicate w (0 : Int) := hx
    rw [List.mem_replicate] at this
    omega
  h0 := fun j p x hp _ hne => by
    have : (List.replicate w (0 : Int))[j]? = some p := hp
    have := List.mem_of_getElem? this
    rw [List.mem_replicate] at this
    exact absurd this.2 hne
theorem Gd.step {w n : Nat} {b : Bk} {d : Ev} {R W : List (List Tx)} (g : Gd w n b) (hr : ruleB R W b d = 0) : Gd w n (stepB b d) := by
  have h := rule0 hr
  refine ⟨by show (b.ph.set _ _).length = w; rw [List.length_set]; exact g.ph, by show (b.hs.set _ _).length = w; rw [List.length_set]; exact g.hs, g.fu, ?_, ?_, ?_, ?_⟩
  · show (if d.phase = 1 then b.ta.set d.seq.toNat true else b.ta).length = n
    split
    · rw [List.length_set]; exact g.ta
    · exact g.ta
  · show (if d.phase = 0 then b.re.set d.seq.toNat true else b.re).length = n
    split
    · rw [List.length_set]; exact g.re
    · exact g.re
  · intro x hx
    rcases List.mem_or_eq_of_mem_set (show x ∈ b.ph.set d.pick.toNat d.phase from hx) with hx | rfl
    · exact g.p4 x hx
    · omega
  · intro j p x hp hx hne
    have hp' : (b.ph.set d.pick.toNat d.phase)[j]? = some p := hp
    have hx' : (b.hs.set d.pick.toNat d.seq)[j]? = some x := hx
    rw [List.getElem?_set] at hp' hx'
    by_cases hj : d.pick.toNat = j
    · rw [if_pos hj] at hx'
      split at hx'
      · cases hx'; omega
      · cases hx'
    · rw [if_neg hj] at hp' hx'
      exact g.h0 j p x hp' hx' hne
theorem audT_gd {R W : List (List Tx)} {b : Bk} {ds : List Ev} {w n : Nat} (g : Gd w n b) : ∀ i, i ≤ ds.length → Gd w n (audT R W b ds i).2 ∧ (audT R W b ds i).1.length ≤ i ∧ ∀ p ∈ (audT R W b ds i).1, 0 ≤ p.1 ∧ p.1 ≤ 6 ∧ 0 ≤ p.2 ∧ p.2 ≤ (ds.length : Int)
  | 0, _ => by rw [audT_0]; exact ⟨g, Nat.le_refl _, fun p hp => by cases hp⟩
  | i + 1, hi => by
    obtain ⟨g1, g2, g3⟩ := audT_gd (R := R) (W := W) g i (Nat.le_of_succ_le hi)
    have hd : ds[i]? = some ds[i] := List.getElem?_eq_getElem hi
    by_cases hr : ruleB R W (audT R W b ds i).2 ds[i] = 0
    · obtain ⟨e1, e2⟩ := audT_go hd hr
      rw [e1, e2]
      exact ⟨g1.step hr, by omega, g3⟩
    · obtain ⟨e1, e2⟩ := audT_no hd hr
      rw [e1, e2]
      refine ⟨g1, by rw [List.length_append]; simp only [List.length_cons, List.length_nil]; omega, fun p hp => ?_⟩
      rcases List.mem_append.1 hp with hp | hp
      · exact g3 p hp
      · cases List.mem_singleton.1 hp
        have := ruleB_le R W (audT R W b ds i).2 ds[i]
        simp only
        omega
theorem leftS_ok (b : Bk) (m : Int) : ∀ n, (leftS b m n).length ≤ n ∧ ∀ p ∈ leftS b m n, p = (6, m)
  | 0 => ⟨Nat.le_refl _, fun p hp => by cases hp⟩
  | n + 1 => by
    obtain ⟨h1, h2⟩ := leftS_ok b m n
    rw [leftS]
    split
    · refine ⟨by rw [List.length_append]; simp only [List.length_cons, List.length_nil]; omega, fun p hp => ?_⟩
      rcases List.mem_append.1 hp with hp | hp
      · exact h2 p hp
      · exact List.mem_singleton.1 hp
    · rw [List.append_nil]; exact ⟨by omega, h2⟩
theorem leftS_yes {b : Bk} {m : Int} {n : Nat} (h : atB b.fu n = false ∧ atB b.re n = false) : leftS b m (n + 1) = leftS b m n ++ [(6, m)] := by rw [leftS, if_pos h]
theorem leftS_no {b : Bk} {m : Int} {n : Nat} (h : ¬ (atB b.fu n = false ∧ atB b.re n = false)) : leftS b m (n + 1) = leftS b m n := by rw [leftS, if_neg h, List.append_nil]
/-- the program's book of entries: none where a worker is idle -/
def hsP (b : Bk) : List Int := List.zipWith (fun p x => if p = 0 then -1 else x) b.ph b.hs
theorem zip_set {α β γ : Type} (f : α → β → γ) (x : α) (y : β) : ∀ (a : List α) (b : List β) (j : Nat), List.zipWith f (a.set j x) (b.set j y) = (List.zipWith f a b).set j (f x y)
  | [], b, j => by simp
  | a :: r, [], j => by simp
  | a :: r, b :: bs, 0 => by simp
  | a :: r, b :: bs, j + 1 => by simp [zip_set f x y r bs j]
theorem hsP_begin (n w : Nat) (full : List Int) : hsP (beginB n w full) = List.replicate w (-1) := by
  unfold hsP beginB
  simp
theorem hsP_step (b : Bk) (d : Ev) : hsP (stepB b d) = (hsP b).set d.pick.toNat (if d.phase = 0 then -1 else d.seq) := by
  unfold hsP stepB
  rw [zip_set]
theorem hsP_len {w n : Nat} {b : Bk} (g : Gd w n b) : (hsP b).length = w := by unfold hsP; rw [List.length_zipWith, g.ph, g.hs, Nat.min_self]
theorem hsP_at {b : Bk} {j : Nat} {p x : Int} (hp : b.ph[j]? = some p) (hx : b.hs[j]? = some x) : (hsP b)[j]? = some (if p = 0 then -1 else x) := by
  unfold hsP
  rw [List.getElem?_zipWith, hp, hx]
theorem atI_of {l : List Int} {j : Nat} {x : Int} (h : l[j]? = some x) : atI l (j : Int) = x := by unfold atI; rw [Int.toNat_natCast, h]; rfl
theorem atB_of {l : List Bool} {j : Nat} {x : Bool} (h : l[j]? = some x) : atB l (j : Int) = x := by unfold atB; rw [Int.toNat_natCast, h]; rfl
end Go.Ai

/-! Rings and orders of edges: the searches, the marks and the counts tell the same. -/
namespace Go.Ai
open Go
/-! ### edges -/
def okE (n : Nat) (e : Int × Int) : Prop := 0 ≤ e.1 ∧ e.1 < n ∧ 0 ≤ e.2 ∧ e.2 < n
/-! ### the lists of a graph -/
noncomputable def outs (n : Nat) (E : List (Int × Int)) (u : Nat) : List Int := (E.filter fun e => dec (okE n e ∧ e.1 = u)).map (·.2)
/-! ### what is to be looked at yet -/
def rest : List Bool → List (List Int) → Nat
  | b :: bs, g :: gs => (if b = true then 0 else g.length) + rest bs gs
  | _, _ => 0
/-! ### the search for a ring -/
/-! ### the marks -/
/-! ### the order -/
end Go.Ai

/-! Rows of single cells; what a drawn region asks of its numbers. -/
namespace Go.Ai
open Go
variable {P : Program} {G : Glob}
noncomputable def aRow (xs : List AV) : AB := mkRow xs 1
theorem rd_a {xs : List AV} {j : Nat} {v : AV} (h : xs[j]? = some v) : rdAB (some (aRow xs)) (j * 1) 1 = some [v] := by
  have hj := (List.getElem?_eq_some_iff.1 h).1
  rw [aRow, rdAB_row, if_pos (by omega), Nat.mul_one]
  rw [List.getElem?_eq_getElem hj] at h
  rw [List.drop_eq_getElem_cons hj, Option.some.inj h]
  rfl
theorem wr_a {h : Heap} {id : Nat} {xs : List AV} {j : Nat} {v : AV} (hj : j < xs.length) (hc : isCell v = true) : wrAB h id (some (aRow xs)) (j * 1) [v] = some (hset h id (aRow (xs.set j v))) := by
  rw [aRow, wrAB_row, if_pos ⟨by simp only [List.length_cons, List.length_nil]; omega, by simp [allCell, hc]⟩, Nat.mul_one]
  simp only [ovr]
  rfl
theorem repl_one (x : AV) (n : Nat) : repl [x] n = List.replicate n x := by
  induction n with
  | zero => rfl
  | succ n ih => rw [repl, ih]; rfl
theorem nMS_a {e : TypeId} {by' key n : Nat} {z : AV} (hs : sizeT P e = some 1) (hb : bytesT P e = some by') (hz : zeroT P e = some z) (hzc : z.cells = [z]) (hn : by' * n ≤ 1073741824) (hn2 : n ≤ 1073741824) (htg : tagA P e = 0 := by kernel_rfl) :
    nMS P key (some (.slice e)) (some (.int .i64 (n : Int))) (some (.int .i64 (n : Int))) = some (.slice key 0 0 n (some n), aRow (List.replicate n z)) := by
  have e1 : Nat.ble n n = true := Nat.ble_eq_true_of_le (Nat.le_refl _)
  have e2 : Nat.ble (by' * n) 1073741824 = true := Nat.ble_eq_true_of_le hn
  have e3 : Nat.ble n 1073741824 = true := Nat.ble_eq_true_of_le hn2
  have e4 : Nat.blt 0 1 = true := rfl
  have e5 : Nat.beq 1 1 = true := rfl
  simp only [nMS, nMS1, nMS2, natOf_c, hs, hb, hz, hzc, e1, e2, e3, e4, List.length_cons, List.length_nil, Nat.zero_add, e5, Bool.and_self, htg, rowT_mk, mkRowT_0, repl_one]
  rfl
/-! ### drawn regions -/
theorem addMade_nil (b : Nat) (h : Heap) : addMade b h [] = h := rfl
noncomputable def mad1 (t : Bool) (o : Option AB) (x y : Heap) : Heap := match t with
  | true => match o with
    | none => x
    | some _ => y
  | false => y
theorem addMade_cons (b : Nat) (h : Heap) (j k : Nat) (blk : AB) (r : Made) : addMade b h ((j, k, blk) :: r) = mad1 (b.testBit j) (hget h k) (addMade b (hset h k blk) r) (addMade b h r) := by
  simp only [addMade, hsetC_eq]
  cases b.testBit j with
  | false => rfl
  | true => cases hget h k <;> rfl
theorem mad1_t (x y : Heap) : mad1 true none x y = x := rfl
theorem mad1_o (a : AB) (x y : Heap) : mad1 true (some a) x y = y := rfl
theorem mad1_f (o : Option AB) (x y : Heap) : mad1 false o x y = y := rfl
theorem addAll_nil (h : Heap) : addAll h [] = h := rfl
theorem addAll_cons (h : Heap) (j k : Nat) (blk : AB) (r : Made) : addAll h ((j, k, blk) :: r) = mad1 true (hget h k) (addAll (hset h k blk) r) (addAll h r) := by
  simp only [addAll, hsetC_eq]
  cases hget h k <;> rfl
theorem readsLeft_nil (b : Nat) : readsLeft b [] = [] := rfl
noncomputable def rdl1 (t : Bool) (x : Nat × Op × AV) (r : List (Nat × Op × AV)) : List (Nat × Op × AV) := match t with
  | true => r
  | false => x :: r
theorem readsLeft_cons (b r b' : Nat) (op : Op) (v : AV) (rest : Rds) : readsLeft b ((r, b', op, v) :: rest) = rdl1 (b.testBit r) (b', op, v) (readsLeft b rest) := by
  simp only [readsLeft]
  cases b.testBit r <;> rfl
theorem rdl1_t (x : Nat × Op × AV) (r : List (Nat × Op × AV)) : rdl1 true x r = r := rfl
theorem rdl1_f (x : Nat × Op × AV) (r : List (Nat × Op × AV)) : rdl1 false x r = x :: r := rfl
theorem readsOk_nil (fr : Fr) (h : Heap) (M : Made) : readsOk P G fr h M [] = true := rfl
noncomputable def rok1 (o : Option AV) (v : AV) (r : Bool) : Bool := match o with
  | some u => avEq u v && r
  | none => false
theorem readsOk_cons (fr : Fr) (h : Heap) (M : Made) (b : Nat) (op : Op) (v : AV) (rest : List (Nat × Op × AV)) : readsOk P G fr h M ((b, op, v) :: rest) = rok1 (readOp P G fr (addMade b h M) op) v (readsOk P G fr h M rest) := by
  simp only [readsOk, rok1]
  cases readOp P G fr (addMade b h M) op with
  | none => rfl
  | some u => simp only; cases avEq u v <;> rfl
theorem rok1_s (u v : AV) (r : Bool) : rok1 (some u) v r = (avEq u v && r) := rfl
theorem asideOk_nil (h h' : Heap) : asideOk h h' [] = true := rfl
noncomputable def asd1 (a b : Option AB) (r : Bool) : Bool := match a, b with
  | none, none => r
  | some _, some _ => r
  | _, _ => false
theorem asideOk_cons (h h' : Heap) (j k : Nat) (blk : AB) (r : Made) : asideOk h h' ((j, k, blk) :: r) = asd1 (hget h k) (hget h' k) (asideOk h h' r) := by
  simp only [asideOk, asd1]
  cases hget h k <;> cases hget h' k <;> rfl
theorem asd1_n (r : Bool) : asd1 none none r = r := rfl
theorem asd1_s (a b : AB) (r : Bool) : asd1 (some a) (some b) r = r := rfl
/-! ### edges -/
def ksE : List CK := [.i .i64, .i .i64]
/-! ### lists of lists between two frames -/
section
variable {A B : Nat} {h h1 : Heap} {ks : List CK} {a : AV} {LL : List (List (List AV))}
end
end Go.Ai

/-! A row of structs that is written in place. -/
namespace Go.Ai
open Go
variable {P : Program}
theorem flat_set {α : Type} {es o : Nat} {v : α} : ∀ {X : List (List α)} {i : Nat} {x : List α}, (∀ y ∈ X, y.length = es) → X[i]? = some x → o < es → X.flatten.set (i * es + o) v = (X.set i (x.set o v)).flatten
  | [], i, x, _, h, _ => by simp at h
  | y :: X, 0, x, hl, h, ho => by
    have : y = x := by simpa using h
    subst this
    have hy := hl y List.mem_cons_self
    rw [List.flatten_cons, List.set_cons_zero, List.flatten_cons, Nat.zero_mul, Nat.zero_add, List.set_append_left _ _ (by omega)]
  | y :: X, i + 1, x, hl, h, ho => by
    have hy := hl y List.mem_cons_self
    have ih := flat_set (v := v) (X := X) (i := i) (x := x) (fun z hz => hl z (List.mem_cons_of_mem _ hz)) (by simpa using h) ho
    rw [List.flatten_cons, List.set_cons_succ, List.flatten_cons, Nat.succ_mul, List.set_append_right _ _ (by omega), ← ih]
    congr 2
    omega
theorem flat_drop {α : Type} {es o c : Nat} : ∀ {X : List (List α)} {i : Nat} {x : List α}, (∀ y ∈ X, y.length = es) → X[i]? = some x → o + c ≤ es → (X.flatten.drop (i * es + o)).take c = (x.drop o).take c
  | [], i, x, _, h, _ => by simp at h
  | y :: X, 0, x, hl, h, ho => by
    have : y = x := by simpa using h
    subst this
    have hy := hl y List.mem_cons_self
    rw [List.flatten_cons, Nat.zero_mul, Nat.zero_add, List.drop_append_of_le_length (by omega), List.take_append_of_le_length (by rw [List.length_drop]; omega)]
  | y :: X, i + 1, x, hl, h, ho => by
    have hy := hl y List.mem_cons_self
    have ih := flat_drop (o := o) (c := c) (X := X) (i := i) (x := x) (fun z hz => hl z (List.mem_cons_of_mem _ hz)) (by simpa using h) ho
    rw [List.flatten_cons, ← ih, show (i + 1) * es + o = y.length + (i * es + o) by rw [Nat.succ_mul]; omega, ← List.drop_drop, List.drop_left]
theorem row_le {es : Nat} {X : List (List AV)} {i : Nat} {x : List AV} (hl : ∀ y ∈ X, y.length = es) (hx : X[i]? = some x) : i * es + es ≤ X.flatten.length := by
  rw [flat_length hl, ← Nat.succ_mul]
  exact Nat.mul_le_mul_right _ (List.getElem?_eq_some_iff.1 hx).1
theorem rd_f {X : List (List AV)} {x : List AV} {es e2 i o c : Nat} (hl : ∀ y ∈ X, y.length = es) (hx : X[i]? = some x) (h : o + c ≤ es) : rdAB (some (mkRow X.flatten e2)) (i * es + o) c = some ((x.drop o).take c) := by
  have := row_le hl hx
  rw [rdAB_row, if_pos (by omega), flat_drop hl hx h]
theorem wr_f {h : Heap} {id : Nat} {X : List (List AV)} {x : List AV} {v : AV} {es e2 i o : Nat} (hl : ∀ y ∈ X, y.length = es) (hx : X[i]? = some x) (ho : o < es) (hc : isCell v = true) : wrAB h id (some (mkRow X.flatten e2)) (i * es + o) [v] = some (hset h id (mkRow (X.set i (x.set o v)).flatten e2)) := by
  have := row_le hl hx
  rw [wrAB_row, if_pos ⟨by simp only [List.length_cons, List.length_nil]; omega, by simp [allCell, hc]⟩]
  simp only [ovr]
  rw [flat_set hl hx ho]
theorem set_es {α : Type} {X : List (List α)} {es i : Nat} {x : List α} (hl : ∀ y ∈ X, y.length = es) (hx : x.length = es) : ∀ y ∈ X.set i x, y.length = es := fun y hy => by
  rcases List.mem_or_eq_of_mem_set hy with hy | rfl
  · exact hl y hy
  · exact hx
theorem repl_flat (c : List AV) (n : Nat) : repl c n = (List.replicate n c).flatten := by
  induction n with
  | zero => rfl
  | succ n ih => rw [repl, ih]; rfl
theorem nMS_f {e : TypeId} {by' key n es : Nat} {z : AV} (hs : sizeT P e = some es) (hb : bytesT P e = some by') (hz : zeroT P e = some z) (hzc : z.cells.length = es) (hes : 0 < es) (hn : by' * n ≤ 1073741824) (hn2 : n ≤ 1073741824) (htg : tagA P e = 0 := by kernel_rfl) :
    nMS P key (some (.slice e)) (some (.int .i64 (n : Int))) (some (.int .i64 (n : Int))) = some (.slice key 0 0 n (some n), mkRow (List.replicate n z.cells).flatten es) := by
  have e1 : Nat.ble n n = true := Nat.ble_eq_true_of_le (Nat.le_refl _)
  have e2 : Nat.ble (by' * n) 1073741824 = true := Nat.ble_eq_true_of_le hn
  have e3 : Nat.ble n 1073741824 = true := Nat.ble_eq_true_of_le hn2
  have e4 : Nat.blt 0 es = true := by simpa using hes
  have e5 : Nat.beq z.cells.length es = true := by simpa using hzc
  simp only [nMS, nMS1, nMS2, natOf_c, hs, hb, hz, e1, e2, e3, e4, Bool.and_self, htg, rowT_mk, mkRowT_0, repl_flat, e5]
  try rfl
end Go.Ai

/-! A list that is nil or lies in a known block of one's own: several such in one frame. -/
namespace Go.Ai
open Go
variable {P : Program}
def GrA (h : Heap) (F c es : Nat) (l : AV) (L : List (List AV)) : Prop := (l = .nils ∧ L = []) ∨ (0 < L.length ∧ OwnL h F c es l L)
section
variable {h h' : Heap} {F c es : Nat} {l : AV} {L N : List (List AV)}
theorem GrA.nil : GrA h F c es .nils [] := .inl ⟨rfl, rfl⟩
theorem GrA.move (g : GrA h F c es l L) (he : hget h' (ky F c) = hget h (ky F c)) : GrA h' F c es l L := g.imp id fun ⟨a, d⟩ => ⟨a, d.move he⟩
theorem GrA.set {k : Nat} {b : AB} (g : GrA h F c es l L) (hk : c ≠ k) : GrA (hset h (ky F k) b) F c es l L := g.move (by rw [hget_hset, if_neg (by rw [ky_inj]; exact hk)])
theorem GrA.lst {ks : List CK} (g : GrA h F c ks.length l L) (hok : ∀ x ∈ L, cksOk ks x) (hm : L.length ≤ maxLen) : LstP h ks l L := by
  rcases g with ⟨rfl, rfl⟩ | ⟨_, o⟩
  · exact ⟨by simp, by simp, .inl ⟨.inl rfl, rfl⟩⟩
  · exact o.lst hok hm
theorem GrA.lstI {ks : List CK} (g : GrA h F c ks.length l L) (hok : ∀ x ∈ L, cksOk ks x) (hm : L.length ≤ maxLen) (hc : c ≤ 1267650600228229401496703205375) : LstI F (F + 1) h ks l L := by
  refine ⟨g.lst hok hm, fun b o eo n cap e hp => ?_⟩
  rcases g with ⟨rfl, rfl⟩ | ⟨_, pre, _, _, rfl | ⟨eo', rfl⟩⟩
  · cases e
  · cases e; exact ⟨by unfold ky; omega, ky_next F c hc⟩
  · cases e; exact ⟨by unfold ky; omega, ky_next F c hc⟩
theorem GrA.app {t t2 e e2 by' k f : Nat} {b : AV} (g : GrA h F c es l L) (hu : P.underlying t = some (.slice e)) (h2 : P.underlying t2 = some (.slice e2)) (hs : sizeT P e = some es) (hb : bytesT P e = some by') (hz : zeroOk P e es by' = true)
    (hsrc : srcCells h es b = some (N.length, N.flatten)) (hp : 0 < N.length) (hes : 0 < es) (hN : ∀ x ∈ N, x.length = es) (hc : allCell N.flatten = true) (hn : L.length + N.length ≤ 100000) (hby : by' ≤ 1000) (htg : tagA P e = 0 := by kernel_rfl) :
    ∃ h3, appendA P t t2 (ky F k) ⟨h, f⟩ l b = some (.slice (ky F k) 0 0 (L ++ N).length none, ⟨h3, f⟩) ∧ GrA h3 F k es (.slice (ky F k) 0 0 (L ++ N).length none) (L ++ N) ∧ ∀ i, i ≠ ky F k → i ≠ ky F c → hget h3 i = hget h i := by
  rcases g with ⟨rfl, rfl⟩ | ⟨hL, o⟩
  · refine ⟨_, (app_nil (s := ⟨h, f⟩) hu h2 hs hb hz hsrc hp (by simpa using hn) hby htg).trans (by rw [St.upd_eq]; rfl), .inr ⟨by simpa using hp, ?_⟩, fun i hi _ => by rw [hget_hset, if_neg hi]⟩
    exact OwnL.new (by simpa using hN) (by rw [hget_hset, if_pos rfl]; rfl) (.inl rfl)
  · refine ⟨_, app_own (s := ⟨h, f⟩) hu h2 hs hb hz o hsrc hp hes hN hc (by omega) hby htg, .inr ⟨by rw [List.length_append]; omega, ?_⟩, fun i hi hj => ?_⟩
    · refine OwnL.new (fun x hx => ?_) (by rw [hget_hset, if_pos rfl]) (.inl rfl)
      rcases List.mem_append.1 hx with hx | hx
      · obtain ⟨pre, _, h3, _⟩ := o
        exact h3 x (List.mem_append_right _ hx)
      · exact hN x hx
    · rw [hget_hset, if_neg hi, killQ_get o hj]
/-- its elements -/
theorem GrA.all (g : GrA h F c es l L) (hp : 0 < L.length) : ∃ o eo cap, l = .slice (ky F c) o eo L.length cap ∧ ∀ (i : Nat) (x : List AV), L[i]? = some x → rdAB (hget h (ky F c)) (o + i * es) es = some x := by
  rcases g with ⟨rfl, rfl⟩ | ⟨_, o⟩
  · simp at hp
  · have hl : ∀ y ∈ L, y.length = es := fun y hy => by obtain ⟨pre, _, h3, _⟩ := o; exact h3 y (List.mem_append_right _ hy)
    obtain ⟨pre, eo, cap, rfl, hr⟩ := o.cells
    refine ⟨_, eo, cap, rfl, fun i x hi => ?_⟩
    have hil := (List.getElem?_eq_some_iff.1 hi).1
    have hmul : i * es + es ≤ L.length * es := by rw [← Nat.succ_mul]; exact Nat.mul_le_mul_right _ hil
    have := rdAB_part hr (k := i * es) (j := es) hmul
    rw [this]
    congr 1
    rw [List.getElem?_eq_getElem hil] at hi
    have hx := Option.some.inj hi
    have hlen : L[i].length = es := hl _ (List.getElem_mem hil)
    have hsplit : L.flatten = (L.take i).flatten ++ (L[i] ++ (L.drop (i + 1)).flatten) := by
      conv => lhs; rw [← List.take_append_drop i L, List.drop_eq_getElem_cons hil, List.flatten_append, List.flatten_cons]
    have htl : (L.take i).flatten.length = i * es := by
      rw [flat_length (es := es) fun y hy => hl y (List.mem_of_mem_take hy), List.length_take, Nat.min_eq_left (by omega)]
    rw [hsplit, ← htl, List.drop_left', ← hlen, List.take_left', hx]
    · rfl
    · rfl
end
end Go.Ai

/-! A loop and what holds behind it: the rest is walked once. -/
namespace Go.Ai
open Go
variable {P : Program} {G : Glob} {K : CallF} {m : Nat} {Q : Ex → Fr → St → Prop}
def exitQ (j : Nat) (R : Fr → St → Prop) : Ex → Fr → St → Prop
  | .exit i, fr, s => i = j ∧ R fr s
  | _, _, _ => False
theorem exit_at {j : Nat} {R : Fr → St → Prop} {fr : Fr} {s : St} (h : R fr s) : exitQ j R (.exit j) fr s := ⟨rfl, h⟩
theorem r_loopE {I : Nat → Fr → St → Prop} {R : Fr → St → Prop} {n j : Nat} {b : Code} {fr : Fr} {s : St} (hn : n < m) (hi : I n fr s) (h : ∀ n fr s, I n fr s → WR (code P G K m b fr s) (roundQ I n (exitQ j R))) (hx : ∀ fr s, R fr s → Q (.exit j) fr s) : WR (code P G K m (.loop b) fr s) Q := by
  refine WR.mono (r_loop hn hi h) ?_
  intro e fr s he
  cases e with
  | exit i => obtain ⟨rfl, hr⟩ := he; exact hx fr s hr
  | normal => exact he.elim
  | ret => exact he.elim
  | pan v => exact he.elim
end Go.Ai

/-! Rules case by case; rows of numbers and truth values that are read or written. -/
namespace Go.Ai
open Go
variable {P : Program}
section
variable {R W : List (List Tx)} {b : Bk} {x q f : Int}
abbrev six (R : List (List Tx)) (b : Bk) (x q f : Int) : Prop := x < 0 ∨ (b.ph.length : Int) ≤ x ∨ q < 0 ∨ (R.length : Int) ≤ q ∨ f < 0 ∨ 4 < f
abbrev two (b : Bk) (x q f : Int) : Prop := f ≠ (atI b.ph x + 1) % 5 ∨ (atI b.ph x ≠ 0 ∧ atI b.hs x ≠ q)
noncomputable def takesB (R W : List (List Tx)) (b : Bk) (q : Int) : Int := open Classical in if atB b.fu q then 3 else if atB b.ta q then 4 else if ahead R W b q.toNat q.toNat then 5 else 0
theorem rl1 (h : six R b x q f) : ruleB R W b ⟨x, q, f⟩ = 1 := by unfold ruleB; exact if_pos h
theorem rl2 (h : ¬ six R b x q f) (h2 : two b x q f) : ruleB R W b ⟨x, q, f⟩ = 2 := by unfold ruleB; rw [if_neg h]; exact if_pos h2
theorem rl0 (h : ¬ six R b x q f) (h2 : ¬ two b x q f) (h3 : f ≠ 1) : ruleB R W b ⟨x, q, f⟩ = 0 := by unfold ruleB; rw [if_neg h, if_neg h2]; exact if_pos h3
theorem rlt (h : ¬ six R b x q f) (h2 : ¬ two b x q f) (h3 : f = 1) : ruleB R W b ⟨x, q, f⟩ = takesB R W b q := by unfold ruleB takesB; rw [if_neg h, if_neg h2, if_neg (fun e => e h3)]
theorem tk3 (h : atB b.fu q = true) : takesB R W b q = 3 := by unfold takesB; rw [if_pos h]
theorem tk4 (h : atB b.fu q = false) (h2 : atB b.ta q = true) : takesB R W b q = 4 := by unfold takesB; rw [if_neg (by simp [h]), if_pos h2]
theorem tk5 (h : atB b.fu q = false) (h2 : atB b.ta q = false) (h3 : ahead R W b q.toNat q.toNat) : takesB R W b q = 5 := by unfold takesB; rw [if_neg (by simp [h]), if_neg (by simp [h2]), if_pos h3]
theorem tk0 (h : atB b.fu q = false) (h2 : atB b.ta q = false) (h3 : ¬ ahead R W b q.toNat q.toNat) : takesB R W b q = 0 := by unfold takesB; rw [if_neg (by simp [h]), if_neg (by simp [h2]), if_neg h3]
end
theorem bools_len (l : List Bool) : (bools l).length = l.length := by simp [bools]
theorem ints_at {l : List Int} {j : Nat} {x : Int} (h : l[j]? = some x) : (ints l)[j]? = some (.int .i64 x) := by simp [ints, h]
theorem ints_set (l : List Int) (j : Nat) (x : Int) : (ints l).set j (.int .i64 x) = ints (l.set j x) := by simp [ints, List.map_set]
/-- a row of single cells that lies below a frame; or nil -/
def RowB (h : Heap) (F : Nat) (a : AV) (L : List AV) : Prop := (a = .nils ∧ L = []) ∨ ∃ k eo cap, k < ky F 0 ∧ a = .slice k 0 eo L.length cap ∧ hget h k = some (aRow L)
theorem RowB.len {h : Heap} {F : Nat} {a : AV} {L : List AV} {t e : TypeId} {h2 : Heap} (hu : P.underlying t = some (.slice e)) (g : RowB h F a L) : rLen1 P h2 t (some a) = some (.int .i64 (L.length : Int)) := by
  rcases g with ⟨rfl, rfl⟩ | ⟨k, eo, cap, _, rfl, _⟩ <;> simp only [rLen1, lenA, hu] <;> rfl
theorem RowB.pos {h : Heap} {F : Nat} {a : AV} {L : List AV} (g : RowB h F a L) (hp : 0 < L.length) : ∃ k eo cap, k < ky F 0 ∧ a = .slice k 0 eo L.length cap ∧ hget h k = some (aRow L) := by
  rcases g with ⟨rfl, rfl⟩ | g
  · simp at hp
  · exact g
/-- a row of single cells in a known block; or nil -/
def RowA (h : Heap) (k : Nat) (a : AV) (L : List AV) : Prop := (a = .nils ∧ L = []) ∨ ∃ eo cap, a = .slice k 0 eo L.length cap ∧ hget h k = some (aRow L)
theorem RowA.b {h : Heap} {F k : Nat} {a : AV} {L : List AV} (g : RowA h k a L) (hk : k < ky F 0) : RowB h F a L := g.imp id fun ⟨eo, cap, h1, h2⟩ => ⟨k, eo, cap, hk, h1, h2⟩
theorem RowA.move {h h' : Heap} {k : Nat} {a : AV} {L : List AV} (g : RowA h k a L) (he : hget h' k = hget h k) : RowA h' k a L := g.imp id fun ⟨eo, cap, h1, h2⟩ => ⟨eo, cap, h1, he.trans h2⟩
theorem RowA.pos {h : Heap} {k : Nat} {a : AV} {L : List AV} (g : RowA h k a L) (hp : 0 < L.length) : ∃ eo cap, a = .slice k 0 eo L.length cap ∧ hget h k = some (aRow L) := by
  rcases g with ⟨rfl, rfl⟩ | g
  · simp at hp
  · exact g
theorem RowA.new {h : Heap} {k eo n : Nat} {cap : Option Nat} {L : List AV} (hn : n = L.length) (hg : hget h k = some (aRow L)) : RowA h k (.slice k 0 eo n cap) L := .inr ⟨eo, cap, by rw [hn], hg⟩
theorem RowA.set {h h' : Heap} {k eo n : Nat} {cap : Option Nat} {L L' : List AV} (g : RowA h k (.slice k 0 eo n cap) L) (hl : L'.length = L.length) (hg : hget h' k = some (aRow L')) : RowA h' k (.slice k 0 eo n cap) L' := by
  rcases g with ⟨h1, _⟩ | ⟨eo', cap', h1, _⟩
  · cases h1
  · cases h1; exact .inr ⟨_, _, by rw [hl], hg⟩
theorem intOp_remI {t : TypeId} {a b : Int} (ha : 0 ≤ a) (hb : 0 < b) : intOp P .rem t .i64 .i64 a b = some (.int .i64 (a % b)) := by
  have : a.tmod b = a % b := Int.tmod_eq_emod_of_nonneg ha
  rw [← this]
  have h0 : b ≠ 0 := by omega
  simp [intOp, binOp, runP, ofS, Op.intDiv, pure, h0]
theorem aMx_0 {s : St} {a : Int} : aMx s (some [.int .i64 a, .int .i64 0]) = some [.val (.int .i64 (a.toNat : Int)) s] := by
  have e : decide (IntKind.i64 = IntKind.i64) = true := decide_eq_true rfl
  simp only [aMx]
  by_cases h : a < 0
  · have : ltInt a 0 = true := decide_eq_true h
    rw [this]
    simp only [show (a.toNat : Int) = 0 by omega, decide_true]
  · have : ltInt a 0 = false := decide_eq_false h
    rw [this]
    simp only [show (a.toNat : Int) = a by omega, decide_true]
end Go.Ai
namespace Go.Ai
theorem RowB.self {h : Heap} {F : Nat} {a : AV} {L : List AV} (g : RowB h F a L) : avEq a a = true := by
  rcases g with ⟨rfl, rfl⟩ | ⟨k, eo, cap, _, rfl, _⟩ <;> simp [avEq]
end Go.Ai
namespace Go.Ai
variable {P : Program}
theorem GrL.room {h : Heap} {F lc es : Nat} {l : AV} {L : List (List AV)} (g : GrL h F lc es l L) : RoomA l := by
  rcases g with ⟨rfl, _⟩ | ⟨_, c, _, pre, _, _, rfl | ⟨eo, rfl⟩⟩
  · trivial
  · trivial
  · exact Nat.le_refl _
/-- the first elements -/
theorem sl_to {t e : TypeId} {es b o eo n s : Nat} {cap : Option Nat} (hu : P.underlying t = some (.slice e)) (hs : sizeT P e = some es) (hr : RoomA (.slice b o eo n cap)) (h : s ≤ n) : ∃ eo' cap', sliceA P t (.slice b o eo n cap) none (some (.int .i64 (s : Int))) none = some (.slice b o eo' s cap') := by
  cases cap with
  | none => exact ⟨eo, none, by simp only [sliceA, hu, sliceD, hs, boundsA, boundA, natOf_c, Nat.ble_eq_true_of_le (Nat.zero_le s), Nat.ble_eq_true_of_le h, Bool.and_self, sliceOpen]; simp⟩
  | some c => exact ⟨eo, some c, by simp only [sliceA, hu, sliceD, hs, boundsA, boundA, natOf_c, Nat.ble_eq_true_of_le (Nat.zero_le s), Nat.ble_eq_true_of_le (Nat.le_trans h hr), Bool.and_self, sliceShut]; simp⟩
end Go.Ai

namespace Go.Proofs.YtfhgiadogeephaaGreatDoor
open Go Go.Ai
set_option maxRecDepth 100000

abbrev ksE : List CK := [.i .i64, .i .i64, .i .i64, .i .u64, .s, .l, .i .i64, .l, .l]
/-- footprints -/
def FootP (h : Heap) (a : AV) (R W : List (List Tx)) : Prop := ∃ X : List (List AV), LstP h [.l, .l] a X ∧ X.length = R.length ∧ W.length = R.length ∧ ∀ (i : Nat) (x : List AV), X[i]? = some x → ∃ r w, x = [r, w] ∧ LstP h ksT r (tL (atL R i)) ∧ LstP h ksT w (tL (atL W i))
/-- entries that lie in the frames between A and B, with their footprints -/
def EntI (A B : Nat) (h : Heap) (a : AV) (R W : List (List Tx)) : Prop := ∃ X : List (List AV), LstI A B h ksE a X ∧ X.length = R.length ∧ W.length = R.length ∧ ∀ (i : Nat) (x : List AV), X[i]? = some x → ∃ r w, x[7]? = some r ∧ x[8]? = some w ∧ LstI A B h ksT r (tL (atL R i)) ∧ LstI A B h ksT w (tL (atL W i))
/-- what is said of Plan -/
def SP : FuncId → List AV → St → Out → Prop
  | 32, [.agg [.int .i64 q0, .int .u64 q1, .str q2, .nils, .int .i64 how, r, w]], s, o => ∀ R W, LstP s.h ksT r (tL R) → LstP s.h ksT w (tL W) → R.length ≤ 100000 → W.length ≤ 100000 → ∃ ar r' w' h', o = .val (.agg [.int .i64 q0, .int .u64 q1, .str q2, ar, .int .i64 how, r', w']) ⟨h', s.fc + 1⟩ ∧ isCell ar = true ∧ ckOk .l ar ∧ LstI s.fc (s.fc + 1) h' ksT r' (tL R) ∧ LstI s.fc (s.fc + 1) h' ksT w' (tL W) ∧ Low s.fc s.h h' ∧ SameH s.h h'
  | _, _, _, _ => True
theorem planQ {h : Heap} {F : Nat} {q0 q1 how : Int} {q2 : Tx} {r w : AV} {R W : List Tx} (hR : LstP h ksT r (tL R)) (hW : LstP h ksT w (tL W)) (lR : R.length ≤ 100000) (lW : W.length ≤ 100000) :
    SndQ Tryz.prog [] 32 [.agg [.int .i64 q0, .int .u64 q1, .str q2, .nils, .int .i64 how, r, w]] ⟨h, F⟩ (SP 32 [.agg [.int .i64 q0, .int .u64 q1, .str q2, .nils, .int .i64 how, r, w]] ⟨h, F⟩) :=
  (planA h F q0 q1 how q2 r w R W hR hW lR lW).mono fun o ho => fun R' W' hR' hW' _ _ => by
    obtain rfl := tL_inj (lstP_inj hR hR')
    obtain rfl := tL_inj (lstP_inj hW hW')
    exact ho
theorem fill7_4 (a b c d e f g v : AV) : fillA [a, b, c, d, e, f, g] 4 [v] = [a, b, c, d, v, f, g] := rfl
theorem fill7_5 (a b c d e f g v u : AV) : fillA [a, b, c, d, e, f, g] 5 [v, u] = [a, b, c, d, e, v, u] := rfl
theorem fill9_0 (a b c d e f g i j v : AV) : fillA [a, b, c, d, e, f, g, i, j] 0 [v] = [v, b, c, d, e, f, g, i, j] := rfl
theorem fill9_2 (a b c d e f g i j p q r s t u v : AV) : fillA [a, b, c, d, e, f, g, i, j] 2 [p, q, r, s, t, u, v] = [a, b, p, q, r, s, t, u, v] := rfl
theorem b57 : (Nat.beq 1 1 && Nat.ble 5 7) = true := rfl
theorem b77 : (Nat.beq 2 2 && Nat.ble 7 7) = true := rfl
theorem b19 : (Nat.beq 1 1 && Nat.ble 1 9) = true := rfl
theorem b99 : (Nat.beq 7 7 && Nat.ble 9 9) = true := rfl
theorem byE : bytesT Tryz.prog 81 = some 128 := by kernel_rfl
theorem zoE : zeroOk Tryz.prog 81 9 128 = true := by kernel_rfl
theorem nBS_E1 {key : Nat} {a b c d e f g i j : AV} : nBS Tryz.prog key 1 (some (.slice 81)) (some [(0, .agg [a, b, c, d, e, f, g, i, j])]) = some (.slice key 0 0 1 (some 1), mkRow [a, b, c, d, e, f, g, i, j] 9) := by
  have tg : tagA Tryz.prog 81 = 0 := by kernel_rfl
  simp only [nBS, nBS2, sz81, zr81, repl, AV.cells, nBS3, rowT_mk, buildArr, tg, mkRowT_0]
  rfl
theorem src_E1 {h : Heap} {k : Nat} {l : List AV} (hl : l.length = 9) (hg : hget h k = some (mkRow l 9)) : srcCells h 9 (.slice k 0 0 1 (some 1)) = some ([l].length, [l].flatten) := by
  simp only [srcCells, readCells_eq, hg, rdAB_row]
  rw [if_pos (by omega)]
  simp [List.take_of_length_le (Nat.le_of_eq hl)]
set_option maxHeartbeats 8000000 in
theorem entriesA (h : Heap) (F : Nat) (a : AV) (R W : List (List Tx)) (hF : FootP h a R W) (hn : R.length ≤ 1000) (hR : ∀ l ∈ R, l.length ≤ 100000) (hW : ∀ l ∈ W, l.length ≤ 100000) :
    SndQ Tryz.prog [] 11 [a] ⟨h, F⟩ (fun o => ∃ v h', o = .val v ⟨h', F + 1 + R.length⟩ ∧ EntI F (F + 1 + R.length) h' v R W ∧ Low F h h' ∧ SameH h h' ∧ RoomA v) := by
  refine sndQ_wf fun hw => ?_
  have mxl : maxLen = 9223372036854775807 := by decide
  obtain ⟨Y, hY, hYl, hWl, hYe⟩ := hF
  have lA := fun (h2 : Heap) => rLen1_L (h2 := h2) Tryz.underlying37 hY
  rw [hYl] at lA
  refine sndQ_body (K := (KA SP)) ka_ok mixed noNum (m := R.length + 1) Tryz.func11 ?_
  generalize hQ : retQ _ _ _ _ _ _ = Q0
  refine body_go (c := Tryz.f11.body.getD .skip) (n := 24) rfl rfl (by simp only [↓reduceIte, T.setList, T.set_e] <;> rfl) ?_
  simp only [Tryz.f11, Option.getD_some]
  repeat' (first | refine st ?_ | ((with_reducible (first | apply r_any | apply r_cond)); focus (simp only [↓reduceIte, clsOf, Fr.ev, ofV, ofA, ofS, put_mk, pureOp, Nat.reduceLT, Nat.reduceEqDiff, Nat.reduceSub, stepOp, stV_mk, T.set_n, T.set_e, Nat.reduceDiv, Nat.reduceMod, stepAny, wantedA_none] <;> rfl)))
  refine r_loop (I := fun nn fr s1 => ∃ lc tt h1 i l X, fr = ⟨F, lc, 24, tt, [], .no⟩ ∧ s1 = ⟨h1, F + 1 + i⟩ ∧ i ≤ R.length ∧ nn = R.length - i ∧ lc + nn * 1000 ≤ 100000000000000000000000000 ∧ Low F h h1 ∧ GrL h1 F lc 9 l X ∧ X.length = i ∧ (∀ (j : Nat) (x : List AV), X[j]? = some x → cksOk ksE x ∧ ∃ r w, x[7]? = some r ∧ x[8]? = some w ∧ LstI (F + 1) (F + 1 + i) h1 ksT r (tL (atL R j)) ∧ LstI (F + 1) (F + 1 + i) h1 ksT w (tL (atL W j))) ∧ tt.get 0 = some a ∧ tt.get 3 = some l ∧ tt.get 4 = some (.int .i64 (i : Int))) (n := R.length) ?_ ?_ ?_
  · omega
  · exact ⟨_, _, _, 0, _, [], rfl, rfl, Nat.zero_le _, (Nat.sub_zero _).symm, by omega, Low.refl F h, GrL.nil, rfl, fun j x hj => by simp at hj, sd8, sd8, sd8⟩
  rintro nn fr s1 ⟨lc, tt, h1, i, l, X, rfl, rfl, hi, rfl, hlc, hlow, hG, hX, hE, u0, u3, u4⟩
  have hS := hlow.same hw
  by_cases hil : i < R.length
  · obtain ⟨x, hx⟩ : ∃ x, Y[i]? = some x := ⟨Y[i], by simp⟩
    obtain ⟨r, w, rfl, hr, hw'⟩ := hYe i x hx
    have hiY : i < Y.length := by omega
    obtain ⟨b, o, eo, cap, rfl, r0, _⟩ := hY.at hiY
    have hb := rd_low hw r0
    rw [show Y[i] = [r, w] by rw [List.getElem?_eq_getElem hiY] at hx; exact Option.some.inj hx] at r0
    rw [hYl] at u0
    have r0' : rdAB (hget h1 b) (o + i * 2) 2 = some [r, w] := hS.rd r0
    have lR : (atL R i).length ≤ 100000 := by unfold atL; rw [List.getElem?_eq_getElem hil]; exact hR _ (List.getElem_mem hil)
    have lW : (atL W i).length ≤ 100000 := by unfold atL; rw [List.getElem?_eq_getElem (by omega)]; exact hW _ (List.getElem_mem (by omega))
    repeat' (first | refine st ?_ | ((with_reducible (first | apply r_any | apply r_cond)); focus (simp only [↓reduceIte, clsOf, clsCall, Fr.ev, evs, evParts, ofV, ofA, ofS, AV.cells, put_mk, pureOp, readOp, rLd, someAgg_s, pBin, binA, intOp_lss, List.length_cons, List.length_nil, List.getElem?_cons_zero, List.getElem?_cons_succ, Nat.zero_add, Nat.reduceAdd, Nat.reduceLT, Nat.reduceEqDiff, loadA_w, loadW_a, callTo_s, heavyCall, target, List.nil_append, List.append_nil, pBuild, pBuild2, fieldsOk, buildParts, binA, stepOp, stHeavy, stV_mk, sz3, Tryz.underlying37, sz74, ag74, sz76, zr78, Tryz.underlying78, stepAny, wantedA_none, rCall, rLen, rLen1_sl, lenA, Tget_set, lt_t hil, pIA_s Tryz.underlying37 sz74 hil, r0', listC_eq, fill7_4, fill7_5, b57, b77, List.length_cons, List.length_nil, Nat.reduceAdd, someAgg_s] <;> rfl)))
    refine r_callC (S := SP) (f := 32) (by first | rfl | (simp only [wantedA_none, Tget_set])) (by simp only [callOuts, callTo_s, target, evs, Fr.ev, Tget_set, ↓reduceIte, List.nil_append, List.append_nil]; exact kc_miss rfl) ?_ ?_
    · exact planQ (hr.same hS) (hw'.same hS) lR lW
    intro oo ho
    obtain ⟨ar, r2, w2, h2, rfl, ha1, ha2, hr2, hw2, hl2, hs2⟩ := ho (atL R i) (atL W i) (hr.same hS) (hw'.same hS) lR lW
    refine ⟨_, by simp only [put_mk, Nat.reduceLT, ↓reduceIte] <;> rfl, ?_⟩
    have hlow2 : Low F h h2 := hlow.trans (hl2.down (by show F ≤ F + 1 + i; omega))
    have hS2 := hlow2.same hw
    have hG2 : GrL h2 F lc 9 l X := hG.move fun c hc => hl2.own (by show F < F + 1 + i; omega) (by omega)
    obtain ⟨h3, ap, hG3, hlow3, hE3⟩ := GrL.appE (P := Tryz.prog) (t := 43) (t2 := 43) (k := lc + 12 + 4) (f := F + 1 + i + 1) (h := (hset (hset (hset h2 (ky F (lc + 4 + 6)) (mkRow [.int .i64 0, .int .u64 0, .str [], .nils, .int .i64 0, .nils, .nils] 0)) (ky F (lc + 4 + 6)) (mkRow [.int .i64 0, .int .u64 0, .str [], ar, .int .i64 1, r2, w2] 0)) (ky F (lc + 12 + 3)) (mkRow [.int .i64 7, .int .i64 0, .int .i64 0, .int .u64 0, .str [], ar, .int .i64 1, r2, w2] 9))) (N := [[.int .i64 7, .int .i64 0, .int .i64 0, .int .u64 0, .str [], ar, .int .i64 1, r2, w2]]) (((hG2.set (k := lc + 4 + 6) (by omega)).set (k := lc + 4 + 6) (by omega)).set (k := lc + 12 + 3) (by omega)) Tryz.underlying43 Tryz.underlying43 sz81 byE zoE (src_E1 rfl (by rw [hget_hset, if_pos rfl])) (by simp) (by decide) (by simp) (by simp only [List.flatten_cons, List.flatten_nil, List.append_nil, allCell, ic_i, ic_s, ha1, isCell_L hr2.p, isCell_L hw2.p]) (by rw [hX]; simp; omega) (by decide) (by omega) (by omega)
    have eqh : ∀ A B, F < A → EqI A B h2 h3 := fun A B hA => EqI.trans ((((EqI.refl _ _ _).set (.inl hA) (by omega)).set (.inl hA) (by omega)).set (.inl hA) (by omega)) (hE3 A B hA)
    repeat' (first | refine st ?_ | ((with_reducible (first | apply r_any | apply r_cond)); focus (simp only [↓reduceIte, clsOf, clsCall, newBlk, allocOp, Fr.ev, evParts, ofV, ofA, ofS, nVar, AV.cells, rowOf_mk, put_mk, put_none, upd_mk, keyOf_mk, pureOp, readOp, rLd, rdAB_row, someAgg_s, hget_same, pBin, binA, List.length_cons, List.length_nil, List.getElem?_cons_zero, List.getElem?_cons_succ, List.drop_zero, List.take_succ_cons, List.take_zero, Nat.zero_add, Nat.reduceAdd, Nat.reduceLT, Nat.reduceLeDiff, Nat.reduceEqDiff, and_self, loadA_w, loadW_a, aSt_w, stOut_s, wrAB_row, ovr, List.set_cons_zero, List.set_cons_succ, allCell, ic_i, ic_s, heavyCall, actOp, pBuild, pBuild2, fieldsOk, buildParts, binA, stepOp, stHeavy, stV_mk, stB_mk, stO_mk, sz2, Tryz.underlying43, sz78, ag78, zr78, tg78, zr81, Tryz.underlying81, stepAny, wantedA_none, Tget_set, isCell_L hr2.p, isCell_L hw2.p, ha1, listC_eq, fill9_0, fill9_2, b19, b99, nBS_E1, aBuiltin, aApp, aApp2, outOf, ap, List.length_cons, List.length_nil, Nat.reduceAdd, someAgg_s, intOp_add (show inR ((i : Int) + 1) by unfold inR; omega)] <;> rfl)))
    refine r_rq_n (k := R.length - (i + 1)) (by omega) ⟨_, _, _, i + 1, _, X ++ [[.int .i64 7, .int .i64 0, .int .i64 0, .int .u64 0, .str [], ar, .int .i64 1, r2, w2]], rfl, rfl, by omega, rfl, by omega, hlow3 h (((hlow2.set (Nat.le_refl F)).set (Nat.le_refl F)).set (Nat.le_refl F)), hG3.up (by omega), by simp [hX], fun j x hj => ?_, (by first | (simp only [Tget_set, Nat.reduceEqDiff, ↓reduceIte, u0, hYl] <;> rfl) | rfl), sd8, sd8⟩
    by_cases hji : j < i
    · rw [List.getElem?_append_left (by omega)] at hj
      obtain ⟨k1, rr, ww, k2, k3, k4, k5⟩ := hE j x hj
      have mv : ∀ {v : AV} {L : List (List AV)}, LstI (F + 1) (F + 1 + i) h1 ksT v L → LstI (F + 1) (F + 1 + (i + 1)) h3 ksT v L := fun hv => ((LstI.low hv hl2 (Nat.le_refl _)).move (eqh _ _ (by omega))).wide (Nat.le_refl _) (by omega)
      exact ⟨k1, rr, ww, k2, k3, mv k4, mv k5⟩
    · rw [List.getElem?_append_right (by omega)] at hj
      have hjj := (List.getElem?_eq_some_iff.1 hj).1
      simp at hjj
      rw [show j - X.length = 0 by omega] at hj
      cases hj
      obtain rfl : j = i := by omega
      have mv : ∀ {v : AV} {L : List (List AV)}, LstI (F + 1 + j) (F + 1 + j + 1) h2 ksT v L → LstI (F + 1) (F + 1 + (j + 1)) h3 ksT v L := fun hv => (hv.move (eqh _ _ (by omega))).wide (by omega) (by omega)
      refine ⟨?_, r2, w2, rfl, rfl, mv hr2, mv hw2⟩
      have hi1 : ∀ n : Int, (n = 7 ∨ n = 0 ∨ n = 1) → IntKind.i64.min ≤ n ∧ n ≤ IntKind.i64.max := fun n hn => by rcases hn with rfl | rfl | rfl <;> decide
      have cl : ∀ {v : AV} {L : List (List AV)}, LstP h2 ksT v L → ckOk .l v := fun hv => by
        rcases hv.2.2 with ⟨rfl | rfl, _⟩ | ⟨b, o, eo, cap, rfl, _⟩ <;> trivial
      exact ⟨_, _, rfl, ⟨rfl, by decide, by decide⟩, _, _, rfl, ⟨rfl, by decide, by decide⟩, _, _, rfl, ⟨rfl, by decide, by decide⟩, _, _, rfl, ⟨rfl, by decide, by decide⟩, _, _, rfl, by simp [ckOk], _, _, rfl, ha2, _, _, rfl, ⟨rfl, by decide, by decide⟩, _, _, rfl, cl hr2.p, _, _, rfl, cl hw2.p, rfl⟩
  · have hend : i = R.length := by omega
    repeat' (first | refine st ?_ | ((with_reducible (first | apply r_any | apply r_cond)); focus (simp only [↓reduceIte, clsOf, clsCall, Fr.ev, put_mk, pureOp, readOp, pBin, binA, intOp_lss, List.getElem?_cons_zero, Nat.reduceLT, Nat.reduceEqDiff, binA, stepOp, stV_mk, stepAny, wantedA_none, rCall, rLen, Tget_set, lA, lt_f hil] <;> rfl)))
    subst hQ
    refine ret_back (by simp only [Tryz.results11, resultOf, resultsA, resultA, List.toList_toArray, Fr.ev, Tget_set, ↓reduceIte] <;> rfl) ?_
    subst hend
    refine ⟨_, _, rfl, ⟨X, (hG.lstI (ks := ksE) (fun x hx => ?_) (by omega) (by omega)).wide (Nat.le_refl _) (by omega), hX, hWl, fun j x hj => ?_⟩, hlow, hS, hG.room⟩
    · obtain ⟨j, hj⟩ := List.getElem?_of_mem hx
      exact (hE j x hj).1
    · obtain ⟨_, rr, ww, k2, k3, k4, k5⟩ := hE j x hj
      exact ⟨rr, ww, k2, k3, k4.wide (by omega) (Nat.le_refl _), k5.wide (by omega) (Nat.le_refl _)⟩

end Go.Proofs.YtfhgiadogeephaaGreatDoor

namespace Go.Proofs.YtfhgiadogeephaaGreatDoor
open Go Go.Ai
set_option maxRecDepth 100000

theorem whenF_at {x p : Int} {ds : List Ev} {i : Nat} {d : Ev} (h : ds[i]? = some d) : whenF x p (ds.drop i) i = open Classical in if d.seq = x ∧ d.phase = p then i else whenF x p (ds.drop (i + 1)) (i + 1) := by
  have hi := (List.getElem?_eq_some_iff.1 h).1
  rw [List.getElem?_eq_getElem hi] at h
  rw [List.drop_eq_getElem_cons hi, Option.some.inj h]
  rfl
theorem whenF_end {x p : Int} {ds : List Ev} : whenF x p (ds.drop ds.length) ds.length = ds.length := by rw [List.drop_length]; rfl
theorem ev_at {h h1 : Heap} {F : Nat} {a : AV} {ds : List Ev} (hw : Wf ⟨h, F⟩) (hl : LstP h ksD a (evL ds)) (hs : SameH h h1) {i : Nat} {d : Ev} (hi : ds[i]? = some d) : ∃ b o eo cap, a = .slice b o eo ds.length cap ∧ b < ky F 0 ∧ rdAB (hget h1 b) (o + i * 3) 3 = some [.int .i64 d.pick, .int .i64 d.seq, .int .i64 d.phase] ∧ rdAB (hget h1 b) (o + i * 3 + 1) 1 = some [.int .i64 d.seq] ∧ rdAB (hget h1 b) (o + i * 3 + 2) 1 = some [.int .i64 d.phase] := by
  have hil := (List.getElem?_eq_some_iff.1 hi).1
  obtain ⟨b, o, eo, cap, e, h0, hp⟩ := hl.at (show i < (evL ds).length by rw [evL_len]; exact hil)
  have : (evL ds)[i]'(by rw [evL_len]; exact hil) = [.int .i64 d.pick, .int .i64 d.seq, .int .i64 d.phase] := by
    rw [List.getElem?_eq_getElem hil] at hi
    simp only [evL, List.getElem_map, Option.some.inj hi]
  rw [this] at h0 hp
  rw [evL_len] at e
  exact ⟨b, o, eo, cap, e, rd_low hw h0, hs.rd h0, hs.rd (hp 1 1 (by decide)), hs.rd (hp 2 1 (by decide))⟩
section
variable {S : FuncId → List AV → St → Out → Prop}
set_option maxHeartbeats 1000000 in
theorem namedA (h : Heap) (F : Nat) (x n : Int) : Snd Tryz.prog [] 33 [.int .i64 x, .int .i64 n] ⟨h, F⟩ [.val (.bool (decide (0 ≤ x) && decide (x < n))) ⟨h, F⟩] := by
  refine snd_val (by simp [Kin]) fun hw => ?_
  by_cases h0 : 0 ≤ x
  · by_cases h1 : x < n
    · refine sndQ_body (K := (KA A0)) ka_ok mixed noNum (m := 0) Tryz.func33 ?_
      generalize hQ : retQ _ _ _ _ _ _ = Q0
      refine body_go (c := Tryz.f33.body.getD .skip) (n := 12) rfl rfl (by simp only [↓reduceIte, T.setList, T.set_e, T.set_n, Nat.reduceDiv, Nat.reduceMod, Nat.reduceEqDiff, Nat.zero_add] <;> rfl) ?_
      simp only [Tryz.f33, Option.getD_some]
      repeat' (first | refine st ?_ | ((with_reducible (first | apply r_any | apply r_cond)); focus (simp only [↓reduceIte, clsOf, Fr.ev, ofV, ofA, ofS, put_mk, pureOp, pBin, binA, intOp_lss, intOp_geq, pPick, Nat.reduceLT, Nat.reduceEqDiff, Nat.reduceSub, binA, stepOp, stV_mk, T.get_n, T.set_n, T.set_e, Nat.reduceDiv, Nat.reduceMod, stepAny, wantedA_none, ge_t h0, ls_t h1] <;> rfl)))
      subst hQ
      refine ret_back (by simp only [Tryz.results33, resultOf, resultsA, resultA, List.toList_toArray, Fr.ev, Tget_set, ↓reduceIte] <;> rfl) ?_
      exact ⟨_, out_eq (by simp [h0, h1]), Same.base _ _ _⟩
    · refine sndQ_body (K := (KA A0)) ka_ok mixed noNum (m := 0) Tryz.func33 ?_
      generalize hQ : retQ _ _ _ _ _ _ = Q0
      refine body_go (c := Tryz.f33.body.getD .skip) (n := 12) rfl rfl (by simp only [↓reduceIte, T.setList, T.set_e, T.set_n, Nat.reduceDiv, Nat.reduceMod, Nat.reduceEqDiff, Nat.zero_add] <;> rfl) ?_
      simp only [Tryz.f33, Option.getD_some]
      repeat' (first | refine st ?_ | ((with_reducible (first | apply r_any | apply r_cond)); focus (simp only [↓reduceIte, clsOf, Fr.ev, ofV, ofA, ofS, put_mk, pureOp, pBin, binA, intOp_lss, intOp_geq, pPick, Nat.reduceLT, Nat.reduceEqDiff, Nat.reduceSub, binA, stepOp, stV_mk, T.get_n, T.set_n, T.set_e, Nat.reduceDiv, Nat.reduceMod, stepAny, wantedA_none, ge_t h0, ls_f h1] <;> rfl)))
      subst hQ
      refine ret_back (by simp only [Tryz.results33, resultOf, resultsA, resultA, List.toList_toArray, Fr.ev, Tget_set, ↓reduceIte] <;> rfl) ?_
      exact ⟨_, out_eq (by simp [h0, h1]), Same.base _ _ _⟩
  · refine sndQ_body (K := (KA A0)) ka_ok mixed noNum (m := 0) Tryz.func33 ?_
    generalize hQ : retQ _ _ _ _ _ _ = Q0
    refine body_go (c := Tryz.f33.body.getD .skip) (n := 12) rfl rfl (by simp only [↓reduceIte, T.setList, T.set_e, T.set_n, Nat.reduceDiv, Nat.reduceMod, Nat.reduceEqDiff, Nat.zero_add] <;> rfl) ?_
    simp only [Tryz.f33, Option.getD_some]
    repeat' (first | refine st ?_ | ((with_reducible (first | apply r_any | apply r_cond)); focus (simp only [↓reduceIte, wantedA_eq, gBool_t, clsOf, Fr.ev, ofV, ofA, ofS, put_mk, pureOp, pBin, binA, intOp_geq, pPick, List.getElem?_cons_zero, List.getElem?_cons_succ, Nat.reduceLT, Nat.reduceEqDiff, Nat.reduceSub, binA, stepOp, stV_mk, T.get_n, T.set_n, T.set_e, Nat.reduceDiv, Nat.reduceMod, stepAny, wantedA_none, ge_f h0] <;> rfl)))
    subst hQ
    refine ret_back (by simp only [Tryz.results33, resultOf, resultsA, resultA, List.toList_toArray, Fr.ev, Tget_set, ↓reduceIte] <;> rfl) ?_
    exact ⟨_, out_eq (by simp [h0]), Same.base _ _ _⟩
theorem k_named {h : Heap} {F : Nat} {x n : Int} : CallF.fn (KA S) 33 [.int .i64 x, .int .i64 n] ⟨h, F⟩ = some [.val (.bool (decide (0 ≤ x) && decide (x < n))) ⟨h, F⟩] := ka_fn rfl (namedA h F x n)
set_option maxHeartbeats 4000000 in
theorem whenA (h : Heap) (F : Nat) (a : AV) (ds : List Ev) (x p : Int) (hA : LstP h ksD a (evL ds)) : Snd Tryz.prog [] 40 [a, .int .i64 x, .int .i64 p, .int .i64 0] ⟨h, F⟩ [.val (.int .i64 (whenF x p ds 0 : Int)) ⟨h, F⟩] := by
  refine snd_val (by simp [Kin]) fun hw => ?_
  have mxl : maxLen = 9223372036854775807 := by decide
  have lA := fun (h2 : Heap) => rLen1_L (h2 := h2) Tryz.underlying39 hA
  rw [evL_len] at lA
  have hlA := hA.len
  rw [evL_len] at hlA
  refine sndQ_body (K := (KA A0)) ka_ok mixed noNum (m := ds.length + 1) Tryz.func40 ?_
  generalize hQ : retQ _ _ _ _ _ _ = Q0
  refine body_go (c := Tryz.f40.body.getD .skip) (n := 36) rfl rfl (by simp only [↓reduceIte, T.setList, T.set_e, T.set_n, Nat.reduceDiv, Nat.reduceMod, Nat.reduceEqDiff, Nat.reduceSub, Nat.reduceAdd, Nat.zero_add] <;> rfl) ?_
  simp only [Tryz.f40, Option.getD_some]
  repeat' (first | refine st ?_ | ((with_reducible (first | apply r_any | apply r_cond)); focus (simp only [↓reduceIte, clsOf, Fr.ev, ofV, ofA, ofS, put_mk, pureOp, Nat.reduceLT, Nat.reduceEqDiff, Nat.reduceSub, stepOp, stV_mk, T.set_n, T.set_e, Nat.reduceDiv, Nat.reduceMod, stepAny, wantedA_none] <;> rfl)))
  refine r_loop (I := fun nn fr s1 => ∃ lc tt i, fr = ⟨F, lc, 36, tt, [], .no⟩ ∧ s1 = ⟨h, F + 1⟩ ∧ i ≤ ds.length ∧ nn = ds.length - i ∧ lc + nn * 1000 ≤ 100000000000000000000000000 ∧ whenF x p ds 0 = whenF x p (ds.drop i) i ∧ tt.get 0 = some a ∧ tt.get 1 = some (.int .i64 x) ∧ tt.get 2 = some (.int .i64 p) ∧ tt.get 9 = some (.int .i64 (i : Int))) (n := ds.length) ?_ ?_ ?_
  · omega
  · exact ⟨_, _, 0, rfl, rfl, Nat.zero_le _, (Nat.sub_zero _).symm, by omega, rfl, sd8, sd8, sd8, sd8⟩
  rintro nn fr s1 ⟨lc, tt, i, rfl, rfl, hi, rfl, hlc, hI, u0, u1, u2, u9⟩
  by_cases hil : i < ds.length
  · obtain ⟨d, hd⟩ : ∃ d, ds[i]? = some d := ⟨ds[i], by simp⟩
    obtain ⟨b, o, eo, cap, rfl, hb, _, r1, r2⟩ := ev_at hw hA (SameH.refl h) hd
    have hst := whenF_at (x := x) (p := p) hd
    by_cases h1 : d.seq = x
    · have e1 : (d.seq == x) = true := beq_iff_eq.2 h1
      by_cases h2 : d.phase = p
      · have e2 : (d.phase == p) = true := beq_iff_eq.2 h2
        repeat' (first | refine st ?_ | ((with_reducible (first | apply r_any | apply r_cond)); focus (simp only [↓reduceIte, clsOf, clsCall, Fr.ev, put_mk, pureOp, readOp, pFA, pFA1, pFA2, rLd, oneCell_one, pBin, binA, intOp_eql, intOp_lss, pPick, List.getElem?_cons_zero, List.getElem?_cons_succ, Nat.reduceLT, Nat.reduceEqDiff, Nat.add_eq, loadA_w, loadW_s, binA, stepOp, stV_mk, sz2, ag2, sz3, ag3, Tryz.underlying89, stepAny, wantedA_none, rCall, rLen, Tget_set, lA, lt_t hil, pIA_s Tryz.underlying39 sz89 hil, r1, r2, e1, e2] <;> rfl)))
        subst hQ
        refine ret_back (by simp only [Tryz.results40, resultOf, resultsA, resultA, List.toList_toArray, Fr.ev, Tget_set, ↓reduceIte] <;> rfl) ?_
        exact ⟨_, by rw [hI, hst, if_pos ⟨h1, h2⟩], Same.base _ _ _⟩
      · have e2 : (d.phase == p) = false := beq_eq_false_iff_ne.2 h2
        repeat' (first | refine st ?_ | ((with_reducible (first | apply r_any | apply r_cond)); focus (simp only [↓reduceIte, clsOf, clsCall, Fr.ev, ofV, ofA, ofS, put_mk, pureOp, readOp, pFA, pFA1, pFA2, rLd, oneCell_one, pBin, binA, intOp_eql, intOp_lss, pPick, List.getElem?_cons_zero, List.getElem?_cons_succ, Nat.reduceLT, Nat.reduceEqDiff, Nat.add_eq, loadA_w, loadW_s, binA, stepOp, stV_mk, sz2, ag2, sz3, ag3, Tryz.underlying89, stepAny, wantedA_none, rCall, rLen, Tget_set, lA, lt_t hil, pIA_s Tryz.underlying39 sz89 hil, r1, r2, e1, e2, intOp_add (inR_succ hil hlA)] <;> rfl)))
        exact r_rq_n (k := ds.length - (i + 1)) (by omega) ⟨_, _, i + 1, rfl, rfl, by omega, rfl, by omega, by rw [hI, hst, if_neg (fun h => h2 h.2)], sd8, sd8, sd8, sd8⟩
    · have e1 : (d.seq == x) = false := beq_eq_false_iff_ne.2 h1
      repeat' (first | refine st ?_ | ((with_reducible (first | apply r_any | apply r_cond)); focus (simp only [↓reduceIte, wantedA_eq, gBool_t, clsOf, clsCall, Fr.ev, ofV, ofA, ofS, put_mk, pureOp, readOp, pFA, pFA1, pFA2, rLd, oneCell_one, pBin, binA, intOp_eql, intOp_lss, pPick, List.getElem?_cons_zero, List.getElem?_cons_succ, Nat.reduceLT, Nat.reduceEqDiff, Nat.add_eq, loadA_w, loadW_s, binA, stepOp, stV_mk, sz2, ag2, Tryz.underlying89, stepAny, wantedA_none, rCall, rLen, Tget_set, lA, lt_t hil, pIA_s Tryz.underlying39 sz89 hil, r1, e1, intOp_add (inR_succ hil hlA)] <;> rfl)))
      exact r_rq_n (k := ds.length - (i + 1)) (by omega) ⟨_, _, i + 1, rfl, rfl, by omega, rfl, by omega, by rw [hI, hst, if_neg (fun h => h1 h.1)], sd8, sd8, sd8, sd8⟩
  · have hend : i = ds.length := by omega
    repeat' (first | refine st ?_ | ((with_reducible (first | apply r_any | apply r_cond)); focus (simp only [↓reduceIte, clsOf, clsCall, Fr.ev, put_mk, pureOp, readOp, pBin, binA, intOp_lss, List.getElem?_cons_zero, Nat.reduceLT, Nat.reduceEqDiff, binA, stepOp, stV_mk, stepAny, wantedA_none, rCall, rLen, Tget_set, lA, lt_f hil] <;> rfl)))
    subst hQ
    refine ret_back (by simp only [Tryz.results40, resultOf, resultsA, resultA, List.toList_toArray, Fr.ev, Tget_set, ↓reduceIte] <;> rfl) ?_
    exact ⟨_, by rw [hI, hend, whenF_end], Same.base _ _ _⟩
theorem k_when {h h1 : Heap} {F : Nat} {a : AV} {ds : List Ev} {x p : Int} (hA : LstP h ksD a (evL ds)) (hs : SameH h h1) : CallF.fn (KA S) 40 [a, .int .i64 x, .int .i64 p, .int .i64 0] ⟨h1, F⟩ = some [.val (.int .i64 (whenF x p ds 0 : Int)) ⟨h1, F⟩] :=
  ka_fn ((rfl : _ = aWhen [a, .int .i64 x, .int .i64 p, .int .i64 0] ⟨h1, F⟩).trans (by simp only [aWhen, evO_same hA hs])) (whenA h1 F a ds x p (hA.same hs))
end

end Go.Proofs.YtfhgiadogeephaaGreatDoor

