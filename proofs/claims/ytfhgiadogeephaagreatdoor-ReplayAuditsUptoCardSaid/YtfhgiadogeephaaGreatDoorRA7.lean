/- A part of the proof of the law ReplayAudits. CONDITIONS: those that each theorem names. -/
import Derived.Test.YtfhgiadogeephaaGreatDoorPartA
import Derived.Test.YtfhgiadogeephaaGreatDoorPartB
namespace Go.Proofs.YtfhgiadogeephaaGreatDoor
open Go Go.Ai
set_option maxRecDepth 100000

/-- entries and their footprints, wherever they lie -/
def EntP (h : Heap) (a : AV) (R W : List (List Tx)) : Prop := ∃ X : List (List AV), LstP h ksE a X ∧ X.length = R.length ∧ W.length = R.length ∧ ∀ (i : Nat) (x : List AV), X[i]? = some x → ∃ r w, x[7]? = some r ∧ x[8]? = some w ∧ LstP h ksT r (tL (atL R i)) ∧ LstP h ksT w (tL (atL W i))
theorem EntI.p {A B : Nat} {h : Heap} {a : AV} {R W : List (List Tx)} (e : EntI A B h a R W) : EntP h a R W := by
  obtain ⟨X, h1, h2, h3, h4⟩ := e
  exact ⟨X, h1.p, h2, h3, fun i x hx => let ⟨r, w, k1, k2, k3, k4⟩ := h4 i x hx; ⟨r, w, k1, k2, k3.p, k4.p⟩⟩
theorem EntP.same {h h1 : Heap} {a : AV} {R W : List (List Tx)} (e : EntP h a R W) (hs : SameH h h1) : EntP h1 a R W := by
  obtain ⟨X, h1, h2, h3, h4⟩ := e
  exact ⟨X, h1.same hs, h2, h3, fun i x hx => let ⟨r, w, k1, k2, k3, k4⟩ := h4 i x hx; ⟨r, w, k1, k2, k3.same hs, k4.same hs⟩⟩
theorem EntP.len {h h2 : Heap} {a : AV} {R W : List (List Tx)} (e : EntP h a R W) : rLen1 Tryz.prog h2 43 (some a) = some (.int .i64 (R.length : Int)) := by
  obtain ⟨X, h1, h2, _⟩ := e
  rw [rLen1_L Tryz.underlying43 h1, h2]
theorem foot_at {h h1 : Heap} {F : Nat} {a : AV} {R W : List (List Tx)} (hw : Wf ⟨h, F⟩) (e : EntP h a R W) (hs : SameH h h1) {i : Nat} (hi : i < R.length) : ∃ b o eo cap r w, a = .slice b o eo R.length cap ∧ b < ky F 0 ∧ rdAB (hget h1 b) (o + i * 9 + 2 + 5) 2 = some [r, w] ∧ LstP h ksT r (tL (atL R i)) ∧ LstP h ksT w (tL (atL W i)) := by
  obtain ⟨X, h1, h2, _, h4⟩ := e
  have hX : i < X.length := by omega
  obtain ⟨b, o, eo, cap, e, h0, hp⟩ := h1.at hX
  have hx : X[i]? = some X[i] := by simp [hX]
  obtain ⟨r, w, k1, k2, k3, k4⟩ := h4 i _ hx
  have hl := (h1.ok hX).length
  have h7 := hp 7 2 (by decide)
  have e2 : (X[i].drop 7).take 2 = [r, w] := by
    have l7 : 7 < X[i].length := by rw [hl]; decide
    have l8 : 8 < X[i].length := by rw [hl]; decide
    rw [List.drop_eq_getElem_cons l7, List.drop_eq_getElem_cons l8]
    rw [List.getElem?_eq_getElem l7] at k1
    rw [List.getElem?_eq_getElem l8] at k2
    rw [Option.some.inj k1, Option.some.inj k2]
    rfl
  rw [e2] at h7
  refine ⟨b, o, eo, cap, r, w, by rw [e, h2], rd_low hw h0, ?_, k3, k4⟩
  have := hs.rd h7
  rw [show o + i * 9 + 2 + 5 = o + i * ksE.length + 7 from rfl]
  exact this
noncomputable def takes (ds : List Ev) (n : Nat) : List Int := (List.range n).map fun (s : Nat) => ((whenF (s : Int) 1 ds 0 : Nat) : Int)
noncomputable def rels (ds : List Ev) (n : Nat) : List Int := (List.range n).map fun (s : Nat) => ((whenF (s : Int) 0 ds 0 : Nat) : Int)
theorem takes_succ (ds : List Ev) (n : Nat) : takes ds (n + 1) = takes ds n ++ [(whenF (n : Int) 1 ds 0 : Int)] := by simp [takes, List.range_succ]
theorem rels_succ (ds : List Ev) (n : Nat) : rels ds (n + 1) = rels ds n ++ [(whenF (n : Int) 0 ds 0 : Int)] := by simp [rels, List.range_succ]
theorem takes_len (ds : List Ev) (n : Nat) : (takes ds n).length = n := by simp [takes]
theorem rels_len (ds : List Ev) (n : Nat) : (rels ds n).length = n := by simp [rels]
theorem byI : bytesT Tryz.prog 3 = some 8 := by kernel_rfl
theorem zoI : zeroOk Tryz.prog 3 1 8 = true := by kernel_rfl
theorem nBS_I1 {key : Nat} {x : Int} : nBS Tryz.prog key 1 (some (.slice 3)) (some [(0, .int .i64 x)]) = some (.slice key 0 0 1 (some 1), mkRow [.int .i64 x] 1) := nBS_int sz3 zr3
theorem src_I1 {h : Heap} {k : Nat} {x : Int} (hg : hget h k = some (mkRow [.int .i64 x] 1)) : srcCells h 1 (.slice k 0 0 1 (some 1)) = some ((iL [x]).length, (iL [x]).flatten) := by
  simp only [srcCells, readCells_eq, hg, rdAB_row]; rfl
theorem iL_app (a b : List Int) : iL (a ++ b) = iL a ++ iL b := by simp [iL]
noncomputable def outE (R W : List (List Tx)) (ds : List Ev) (a : Nat) : List (Int × Int) := (List.range a).flatMap fun a' => (List.range R.length).flatMap fun b => edgOf R W ds a' b
noncomputable def inE (R W : List (List Tx)) (ds : List Ev) (a b : Nat) : List (Int × Int) := outE R W ds a ++ (List.range b).flatMap fun b' => edgOf R W ds a b'
theorem inE_0 {R W : List (List Tx)} {ds : List Ev} {a : Nat} : inE R W ds a 0 = outE R W ds a := by simp [inE]
theorem inE_n {R W : List (List Tx)} {ds : List Ev} {a : Nat} : inE R W ds a R.length = outE R W ds (a + 1) := by simp [inE, outE, List.range_succ]
theorem inE_succ {R W : List (List Tx)} {ds : List Ev} {a b : Nat} : inE R W ds a (b + 1) = inE R W ds a b ++ edgOf R W ds a b := by simp [inE, List.range_succ]
theorem outE_n {R W : List (List Tx)} {ds : List Ev} : outE R W ds R.length = edgF R W ds := rfl
theorem edgOf_mem {R W : List (List Tx)} {ds : List Ev} {a b : Nat} {p : Int × Int} (h : p ∈ edgOf R W ds a b) : p = ((a : Int), (b : Int)) := by
  unfold edgOf at h
  simp only at h
  split at h
  · simp at h
  · split at h
    · simp at h
    · simpa using h
theorem edgOf_len {R W : List (List Tx)} {ds : List Ev} {a b : Nat} : (edgOf R W ds a b).length ≤ 1 := by
  unfold edgOf
  simp only
  split
  · simp
  · split <;> simp
theorem outE_succ {R W : List (List Tx)} {ds : List Ev} {a : Nat} : outE R W ds (a + 1) = outE R W ds a ++ (List.range R.length).flatMap fun b => edgOf R W ds a b := by simp [outE, List.range_succ]
theorem flat_len {α : Type} {f : Nat → List α} (hf : ∀ b, (f b).length ≤ 1) : ∀ n, ((List.range n).flatMap f).length ≤ n
  | 0 => by simp
  | n + 1 => by
    have := flat_len hf n
    have := hf n
    rw [List.range_succ, List.flatMap_append, List.length_append]
    simp only [List.flatMap_cons, List.flatMap_nil, List.append_nil]
    omega
theorem outE_len {R W : List (List Tx)} {ds : List Ev} : ∀ a, (outE R W ds a).length ≤ a * R.length
  | 0 => by simp [outE]
  | a + 1 => by
    have h1 := outE_len (R := R) (W := W) (ds := ds) a
    have h2 := flat_len (f := fun b => edgOf R W ds a b) (fun b => edgOf_len) R.length
    rw [outE_succ, List.length_append, Nat.succ_mul]
    omega
theorem inE_len {R W : List (List Tx)} {ds : List Ev} {a b : Nat} : (inE R W ds a b).length ≤ a * R.length + b := by
  have h1 := outE_len (R := R) (W := W) (ds := ds) a
  have h2 := flat_len (f := fun b => edgOf R W ds a b) (fun b => edgOf_len) b
  unfold inE
  rw [List.length_append]
  omega
theorem edgF_ok {R W : List (List Tx)} {ds : List Ev} (hn : R.length ≤ 100) : ∀ x ∈ pL (edgF R W ds), cksOk ks2 x := by
  intro x hx
  obtain ⟨p, hp, rfl⟩ := List.mem_map.1 hx
  obtain ⟨a, ha, hp⟩ := List.mem_flatMap.1 hp
  obtain ⟨b, hb, hp⟩ := List.mem_flatMap.1 hp
  obtain rfl := edgOf_mem hp
  rw [List.mem_range] at ha hb
  have k : ∀ n : Nat, n < 100 → IntKind.i64.min ≤ (n : Int) ∧ (n : Int) ≤ IntKind.i64.max := fun n hn => by
    have e1 : IntKind.i64.min = -9223372036854775808 := by decide
    have e2 : IntKind.i64.max = 9223372036854775807 := by decide
    omega
  exact ⟨_, _, rfl, ⟨rfl, k a (by omega)⟩, _, _, rfl, ⟨rfl, k b (by omega)⟩, rfl⟩
theorem by2 : bytesT Tryz.prog 100 = some 16 := by kernel_rfl
theorem zo2 : zeroOk Tryz.prog 100 2 16 = true := by kernel_rfl
theorem nBS_21 {key : Nat} {a b : AV} : nBS Tryz.prog key 1 (some (.slice 100)) (some [(0, .agg [a, b])]) = some (.slice key 0 0 1 (some 1), mkRow [a, b] 2) := by
  have tg : tagA Tryz.prog 100 = 0 := by kernel_rfl
  simp only [nBS, nBS2, sz100, zr100, repl, AV.cells, nBS3, rowT_mk, buildArr, tg, mkRowT_0]
  rfl
theorem src_21 {h : Heap} {k : Nat} {x y : Int} (hg : hget h k = some (mkRow [.int .i64 x, .int .i64 y] 2)) : srcCells h 2 (.slice k 0 0 1 (some 1)) = some ((pL [(x, y)]).length, (pL [(x, y)]).flatten) := by
  simp only [srcCells, readCells_eq, hg, rdAB_row]; rfl
theorem fill2_0 (a b v : AV) : fillA [a, b] 0 [v] = [v, b] := rfl
theorem fill2_1 (a b v : AV) : fillA [a, b] 1 [v] = [a, v] := rfl
theorem b12 : (Nat.beq 1 1 && Nat.ble 1 2) = true := rfl
theorem b22 : (Nat.beq 1 1 && Nat.ble 2 2) = true := rfl
theorem pL_app (a b : List (Int × Int)) : pL (a ++ b) = pL a ++ pL b := by simp [pL]
theorem takes_at {ds : List Ev} {n i : Nat} (h : i < n) : (iL (takes ds n))[i]? = some [.int .i64 ((whenF (i : Int) 1 ds 0 : Nat) : Int)] := by simp [iL, takes, h]
theorem rels_at {ds : List Ev} {n i : Nat} (h : i < n) : (iL (rels ds n))[i]? = some [.int .i64 ((whenF (i : Int) 0 ds 0 : Nat) : Int)] := by simp [iL, rels, h]
theorem edge_no {R W : List (List Tx)} {ds : List Ev} {a b : Nat} (h : a = b ∨ whenF (a : Int) 1 ds 0 = ds.length ∨ whenF (b : Int) 1 ds 0 = ds.length ∨ ¬ clashP (atL R a) (atL W a) (atL R b) (atL W b)) : edgOf R W ds a b = [] := by
  unfold edgOf; simp only; rw [if_pos h]
theorem edge_no2 {R W : List (List Tx)} {ds : List Ev} {a b : Nat} (h2 : whenF (b : Int) 0 ds 0 < whenF (a : Int) 1 ds 0 ∧ ¬ whenF (a : Int) 0 ds 0 < whenF (b : Int) 1 ds 0) : edgOf R W ds a b = [] := by
  unfold edgOf; simp only [if_pos h2, ite_self]
theorem edge_yes {R W : List (List Tx)} {ds : List Ev} {a b : Nat} (h : ¬ (a = b ∨ whenF (a : Int) 1 ds 0 = ds.length ∨ whenF (b : Int) 1 ds 0 = ds.length ∨ ¬ clashP (atL R a) (atL W a) (atL R b) (atL W b))) (h2 : ¬ (whenF (b : Int) 0 ds 0 < whenF (a : Int) 1 ds 0 ∧ ¬ whenF (a : Int) 0 ds 0 < whenF (b : Int) 1 ds 0)) : edgOf R W ds a b = [((a : Int), (b : Int))] := by
  unfold edgOf; simp only; rw [if_neg h, if_neg h2]
set_option maxHeartbeats 8000000 in
theorem edgesB (h : Heap) (F : Nat) (l e : AV) (R W : List (List Tx)) (ds : List Ev) (hL : EntP h l R W) (hD : LstP h ksD e (evL ds)) (hn : R.length ≤ 100) (hb : ∀ i, (atL R i).length + (atL W i).length ≤ 100000) :
    SndQ Tryz.prog [] 17 [l, e] ⟨h, F⟩ (fun o => ∃ v h', o = .val v ⟨h', F + 1⟩ ∧ LstI F (F + 1) h' ks2 v (pL (edgF R W ds)) ∧ Low F h h' ∧ SameH h h') := by
  refine sndQ_wf fun hw => ?_
  have mxl : maxLen = 9223372036854775807 := by decide
  have lL := fun (h2 : Heap) => hL.len (h2 := h2)
  have lD := fun (h2 : Heap) => rLen1_L (h2 := h2) Tryz.underlying39 hD
  rw [evL_len] at lD
  refine sndQ_body (K := (KA A0)) ka_ok mixed noNum (m := R.length + 1) Tryz.func17 ?_
  generalize hQ : retQ _ _ _ _ _ _ = Q0
  refine body_go (c := Tryz.f17.body.getD .skip) (n := 107) rfl rfl (by simp only [↓reduceIte, T.setList, T.set_e, T.set_n, Nat.reduceDiv, Nat.reduceMod, Nat.reduceEqDiff, Nat.zero_add] <;> rfl) ?_
  simp only [Tryz.f17, Option.getD_some]
  repeat' (first | refine st ?_ | ((with_reducible apply r_drawL); (focus kernel_rfl); (focus kernel_rfl); (focus (exact sd1))) | ((with_reducible (first | apply r_any | apply r_cond)); focus (simp only [↓reduceIte, clsOf, clsCall, Fr.ev, ofV, ofA, ofS, put_mk, pureOp, readOp, List.getElem?_cons_zero, Nat.reduceLT, Nat.reduceEqDiff, Nat.reduceSub, stepOp, stV_mk, T.get_n, T.set_n, T.set_e, Nat.reduceDiv, Nat.reduceMod, stepAny, wantedA_none, rCall, rLen, lD] <;> rfl)))
  refine r_loopE (j := 0) (R := fun fr s1 => ∃ lc tt h1 t r ct cr, fr = ⟨F, lc, 107, tt, [], .no⟩ ∧ s1 = ⟨h1, F + 1⟩ ∧ lc ≤ 100000000000000000000001000 ∧ Low F h h1 ∧ GrA h1 F ct 1 t (iL (takes ds R.length)) ∧ GrA h1 F cr 1 r (iL (rels ds R.length)) ∧ ct ≠ cr ∧ ct < lc ∧ cr < lc ∧ tt.get 0 = some l ∧ tt.get 1 = some e ∧ tt.get 5 = some (.int .i64 (ds.length : Int)) ∧ tt.get 6 = some t ∧ tt.get 7 = some r) (I := fun nn fr s1 => ∃ lc tt h1 i t r ct cr, fr = ⟨F, lc, 107, tt, [], .no⟩ ∧ s1 = ⟨h1, F + 1⟩ ∧ i ≤ R.length ∧ nn = R.length - i ∧ 2 ≤ lc ∧ lc + nn * 1000 ≤ 100000000000000000000000000 ∧ Low F h h1 ∧ GrA h1 F ct 1 t (iL (takes ds i)) ∧ GrA h1 F cr 1 r (iL (rels ds i)) ∧ ct ≠ cr ∧ ct < lc ∧ cr < lc ∧ tt.get 0 = some l ∧ tt.get 1 = some e ∧ tt.get 5 = some (.int .i64 (ds.length : Int)) ∧ tt.get 6 = some t ∧ tt.get 7 = some r ∧ tt.get 8 = some (.int .i64 (i : Int))) (n := R.length) ?_ ?_ ?_ ?_
  · omega
  · exact ⟨_, _, _, 0, _, _, 0, 1, rfl, rfl, Nat.zero_le _, (Nat.sub_zero _).symm, by omega, by omega, Low.refl F h, GrA.nil, GrA.nil, by decide, by omega, by omega, sd8, sd8, sd8, sd8, sd8, sd8⟩
  · rintro nn fr s1 ⟨lc, tt, h1, i, t, r, ct, cr, rfl, rfl, hi, rfl, hl0, hlc, hlow, hT, hR, hne, hct, hcr, u0, u1, u5, u6, u7, u8⟩
    have hS := hlow.same hw
    by_cases hil : i < R.length
    · have z1 : Int := 0
      obtain ⟨x1, hx1⟩ : ∃ x, x = (whenF (i : Int) 1 ds 0 : Int) := ⟨_, rfl⟩
      obtain ⟨x2, hx2⟩ : ∃ x, x = (whenF (i : Int) 0 ds 0 : Int) := ⟨_, rfl⟩
      have kw := fun (p : Int) (h2 : Heap) (hs : SameH h h2) => k_when (S := A0) (F := F + 1) (x := (i : Int)) (p := p) hD hs
      have kw1 := kw 1
      have kw2 := kw 0
      rw [← hx1] at kw1
      rw [← hx2] at kw2
      have low2 : Low F h (hset h1 (ky F (lc + 4 + 4)) (mkRow [.int .i64 x1] 1)) := hlow.set (Nat.le_refl F)
      obtain ⟨h3, ap1, hT3, m3⟩ := GrA.app (P := Tryz.prog) (t := 84) (t2 := 84) (k := lc + 4 + 5) (f := F + 1) (N := iL [x1]) (hT.set (k := lc + 4 + 4) (b := mkRow [.int .i64 x1] 1) (by omega)) Tryz.underlying84 Tryz.underlying84 sz3 byI zoI (src_I1 (by rw [hget_hset, if_pos rfl])) (by simp [iL]) (by decide) (iL_one _) rfl (by rw [iL_len, iL_len, takes_len]; simp; omega) (by decide)
      have low3 : Low F h h3 := fun j hj => (m3 j (by have := ky_le F (lc + 4 + 5); omega) (by have := ky_le F ct; omega)).trans (low2 j hj)
      have hR3 : GrA h3 F cr 1 r (iL (rels ds i)) := (hR.set (k := lc + 4 + 4) (b := mkRow [.int .i64 x1] 1) (by omega)).move (m3 _ (by rw [Ne, ky_inj]; omega) (by rw [Ne, ky_inj]; omega))
      obtain ⟨h5, ap2, hR5, m5⟩ := GrA.app (P := Tryz.prog) (t := 84) (t2 := 84) (k := lc + 11 + 5) (f := F + 1) (N := iL [x2]) (hR3.set (k := lc + 11 + 4) (b := mkRow [.int .i64 x2] 1) (by omega)) Tryz.underlying84 Tryz.underlying84 sz3 byI zoI (src_I1 (by rw [hget_hset, if_pos rfl])) (by simp [iL]) (by decide) (iL_one _) rfl (by rw [iL_len, iL_len, rels_len]; simp; omega) (by decide)
      have low4 : Low F h (hset h3 (ky F (lc + 11 + 4)) (mkRow [.int .i64 x2] 1)) := low3.set (Nat.le_refl F)
      have low5 : Low F h h5 := fun j hj => (m5 j (by have := ky_le F (lc + 11 + 5); omega) (by have := ky_le F cr; omega)).trans (low4 j hj)
      have hT5 := (hT3.set (k := lc + 11 + 4) (b := mkRow [.int .i64 x2] 1) (by omega)).move (m5 _ (by rw [Ne, ky_inj]; omega) (by rw [Ne, ky_inj]; omega))
      have S3 := low3.same hw
      repeat' (first | refine st ?_ | ((with_reducible apply r_drawL); (focus kernel_rfl); (focus kernel_rfl); (focus (exact sd1))) | ((with_reducible (first | apply r_any | apply r_cond)); focus (simp only [↓reduceIte, clsOf, clsCall, newBlk, allocOp, Fr.ev, evs, evParts, ofV, ofA, ofS, put_mk, upd_mk, keyOf_mk, pureOp, readOp, pBin, binA, intOp_lss, List.getElem?_cons_zero, Nat.zero_add, Nat.reduceAdd, Nat.reduceLT, Nat.reduceEqDiff, callTo_s, heavyCall, target, List.nil_append, List.append_nil, binA, stepOp, stHeavy, stV_mk, stB_mk, stO_mk, Tryz.underlying84, stepAny, wantedA_none, rCall, rLen, Tget_set, lL, lt_t hil, kw1, kw2, hS, S3, nBS_I1, aBuiltin, aApp, aApp2, outOf, ap1, ap2, intOp_add (show inR ((i : Int) + 1) by unfold inR; omega)] <;> rfl)))
      refine r_rq_n (k := R.length - (i + 1)) (by omega) ⟨_, _, _, i + 1, _, _, lc + 4 + 5, lc + 11 + 5, rfl, rfl, by omega, rfl, by omega, by omega, low5, ?_, ?_, by omega, by omega, by omega, sd8, sd8, sd8, sd8, sd8, sd8⟩
      · rw [takes_succ, ← hx1, iL_app]; exact hT5
      · rw [rels_succ, ← hx2, iL_app]; exact hR5
    · repeat' (first | refine st ?_ | ((with_reducible apply r_drawL); (focus kernel_rfl); (focus kernel_rfl); (focus (exact sd1))) | ((with_reducible (first | apply r_any | apply r_cond)); focus (simp only [↓reduceIte, clsOf, clsCall, Fr.ev, put_mk, pureOp, readOp, pBin, binA, intOp_lss, List.getElem?_cons_zero, Nat.reduceLT, Nat.reduceEqDiff, binA, stepOp, stV_mk, stepAny, wantedA_none, rCall, rLen, Tget_set, lL, lt_f hil] <;> rfl)))
      have hend : i = R.length := by omega
      subst hend
      exact exit_at ⟨_, _, _, _, _, ct, cr, rfl, rfl, by omega, hlow, hT, hR, hne, by omega, by omega, sd8, sd8, sd8, sd8, sd8⟩
  rintro fr s1 ⟨lc, tt, h1, t, r, ct, cr, rfl, rfl, hlc, hlow, hT, hR, hne, hct, hcr, u0, u1, u5, u6, u7⟩
  have hn0 : R.length ≤ 100 := hn
  repeat' (first | refine st ?_ | ((with_reducible apply r_drawL); (focus kernel_rfl); (focus kernel_rfl); (focus (exact sd1))) | ((with_reducible (first | apply r_any | apply r_cond)); focus (simp only [↓reduceIte, clsOf, Fr.ev, ofV, ofA, ofS, put_mk, pureOp, Nat.reduceLT, stepOp, stV_mk, stepAny, wantedA_none] <;> rfl)))
  refine r_loop (I := fun nn fr s1 => ∃ lc3 tt h3 a out co, fr = ⟨F, lc3, 107, tt, [], .no⟩ ∧ s1 = ⟨h3, F + 1⟩ ∧ a ≤ R.length ∧ nn = R.length - a ∧ lc3 + nn * 1000000 ≤ 1000000000000000000000000000 ∧ Low F h h3 ∧ hget h3 (ky F ct) = hget h1 (ky F ct) ∧ hget h3 (ky F cr) = hget h1 (ky F cr) ∧ GrA h3 F co 2 out (pL (outE R W ds a)) ∧ co ≠ ct ∧ co ≠ cr ∧ co < lc3 ∧ ct < lc3 ∧ cr < lc3 ∧ tt.get 0 = some l ∧ tt.get 1 = some e ∧ tt.get 5 = some (.int .i64 (ds.length : Int)) ∧ tt.get 6 = some t ∧ tt.get 7 = some r ∧ tt.get 9 = some out ∧ tt.get 10 = some (.int .i64 (a : Int))) (n := R.length) ?_ ?_ ?_
  · omega
  · exact ⟨_, _, _, 0, _, lc, rfl, rfl, Nat.zero_le _, (Nat.sub_zero _).symm, by omega, hlow, rfl, rfl, GrA.nil, by omega, by omega, by omega, by omega, by omega, sd8, sd8, sd8, sd8, sd8, sd8, sd8⟩
  rintro nn fr s1 ⟨lc3, tt, h3, a, out, co, rfl, rfl, ha, rfl, hlc3, hlow3, k1, k2, hO, hc1, hc2, hc3, hc4, hc5, u0, u1, u5, u6, u7, u9, u10⟩
  have hS3 := hlow3.same hw
  by_cases haR : a < R.length
  rotate_left
  · have hend : a = R.length := by omega
    repeat' (first | refine st ?_ | ((with_reducible apply r_drawL); (focus kernel_rfl); (focus kernel_rfl); (focus (exact sd1))) | ((with_reducible (first | apply r_any | apply r_cond)); focus (simp only [↓reduceIte, clsOf, clsCall, Fr.ev, put_mk, pureOp, readOp, pBin, binA, intOp_lss, List.getElem?_cons_zero, Nat.reduceLT, Nat.reduceEqDiff, binA, stepOp, stV_mk, stepAny, wantedA_none, rCall, rLen, Tget_set, lL, lt_f haR] <;> rfl)))
    subst hQ
    refine ret_back (by simp only [Tryz.results17, resultOf, resultsA, resultA, List.toList_toArray, Fr.ev, Tget_set, ↓reduceIte] <;> rfl) ?_
    subst hend
    rw [outE_n] at hO
    refine ⟨_, _, rfl, hO.lstI (ks := ks2) (edgF_ok hn) ?_ (by omega), hlow3, hS3⟩
    have := outE_len (R := R) (W := W) (ds := ds) R.length
    have h2 : R.length * R.length ≤ 100 * 100 := Nat.mul_le_mul hn hn
    rw [pL_len, ← outE_n]; omega
  repeat' (first | refine st ?_ | ((with_reducible apply r_drawL); (focus kernel_rfl); (focus kernel_rfl); (focus (exact sd1))) | ((with_reducible (first | apply r_any | apply r_cond)); focus (simp only [↓reduceIte, clsOf, clsCall, Fr.ev, ofV, ofA, ofS, put_mk, pureOp, readOp, pBin, binA, intOp_lss, List.getElem?_cons_zero, Nat.reduceLT, Nat.reduceEqDiff, binA, stepOp, stV_mk, stepAny, wantedA_none, rCall, rLen, Tget_set, lL, lt_t haR] <;> rfl)))
  refine r_loopE (j := 4) (R := fun fr s1 => ∃ lc4 tt h4 out co, fr = ⟨F, lc4, 107, tt, [], .no⟩ ∧ s1 = ⟨h4, F + 1⟩ ∧ lc4 ≤ lc3 + 900000 ∧ Low F h h4 ∧ hget h4 (ky F ct) = hget h1 (ky F ct) ∧ hget h4 (ky F cr) = hget h1 (ky F cr) ∧ GrA h4 F co 2 out (pL (inE R W ds a R.length)) ∧ co ≠ ct ∧ co ≠ cr ∧ co < lc4 ∧ ct < lc4 ∧ cr < lc4 ∧ tt.get 0 = some l ∧ tt.get 1 = some e ∧ tt.get 5 = some (.int .i64 (ds.length : Int)) ∧ tt.get 6 = some t ∧ tt.get 7 = some r ∧ tt.get 9 = some out ∧ tt.get 10 = some (.int .i64 (a : Int))) (I := fun nn fr s1 => ∃ lc4 tt h4 b out co, fr = ⟨F, lc4, 107, tt, [], .no⟩ ∧ s1 = ⟨h4, F + 1⟩ ∧ b ≤ R.length ∧ nn = R.length - b ∧ lc4 + nn * 1000 ≤ lc3 + 200000 ∧ Low F h h4 ∧ hget h4 (ky F ct) = hget h1 (ky F ct) ∧ hget h4 (ky F cr) = hget h1 (ky F cr) ∧ GrA h4 F co 2 out (pL (inE R W ds a b)) ∧ co ≠ ct ∧ co ≠ cr ∧ co < lc4 ∧ ct < lc4 ∧ cr < lc4 ∧ tt.get 0 = some l ∧ tt.get 1 = some e ∧ tt.get 5 = some (.int .i64 (ds.length : Int)) ∧ tt.get 6 = some t ∧ tt.get 7 = some r ∧ tt.get 9 = some out ∧ tt.get 10 = some (.int .i64 (a : Int)) ∧ tt.get 11 = some (.int .i64 (b : Int))) (n := R.length) ?_ ?_ ?_ ?_
  · omega
  · exact ⟨_, _, _, 0, _, co, rfl, rfl, Nat.zero_le _, (Nat.sub_zero _).symm, by omega, hlow3, k1, k2, by rw [inE_0]; exact hO, hc1, hc2, by omega, by omega, by omega, sd8, sd8, sd8, sd8, sd8, sd8, sd8, sd8⟩
  · rintro nn fr s1 ⟨lc4, tt, h4, b, out, co, rfl, rfl, hbR, rfl, hlc4, hlow4, k1, k2, hO, hc1, hc2, hc3, hc4, hc5, u0, u1, u5, u6, u7, u9, u10, u11⟩
    have hS4 := hlow4.same hw
    by_cases hb' : b < R.length
    rotate_left
    · repeat' (first | refine st ?_ | ((with_reducible apply r_drawL); (focus kernel_rfl); (focus kernel_rfl); (focus (exact sd1))) | ((with_reducible (first | apply r_any | apply r_cond)); focus (simp only [↓reduceIte, clsOf, clsCall, Fr.ev, put_mk, pureOp, readOp, pBin, binA, intOp_lss, List.getElem?_cons_zero, Nat.reduceLT, Nat.reduceEqDiff, binA, stepOp, stV_mk, stepAny, wantedA_none, rCall, rLen, Tget_set, lL, lt_f hb'] <;> rfl)))
      have hend : b = R.length := by omega
      subst hend
      exact exit_at ⟨_, _, _, _, co, rfl, rfl, by omega, hlow4, k1, k2, hO, hc1, hc2, by omega, by omega, by omega, sd8, sd8, sd8, sd8, sd8, sd8, sd8⟩
    obtain ⟨o1, eo1, cap1, et, hta'⟩ := hT.all (by rw [iL_len, takes_len]; omega)
    obtain ⟨o2, eo2, cap2, er, hra'⟩ := hR.all (by rw [iL_len, rels_len]; omega)
    have la : a < (iL (takes ds R.length)).length := by rw [iL_len, takes_len]; exact haR
    have lb : b < (iL (takes ds R.length)).length := by rw [iL_len, takes_len]; exact hb'
    have la2 : a < (iL (rels ds R.length)).length := by rw [iL_len, rels_len]; exact haR
    have lb2 : b < (iL (rels ds R.length)).length := by rw [iL_len, rels_len]; exact hb'
    have ta := hta' a _ (takes_at haR)
    have tb := hta' b _ (takes_at hb')
    have ra := hra' a _ (rels_at haR)
    have rb := hra' b _ (rels_at hb')
    rw [← k1] at ta tb
    rw [← k2] at ra rb
    obtain ⟨b1, p1, ep1, cp1, r1, w1, el, hb1, f1, hr1, hw1⟩ := foot_at hw hL hS4 haR
    obtain ⟨b2, p2, ep2, cp2, r2, w2, el2, hb2, f2, hr2, hw2⟩ := foot_at hw hL hS4 hb'
    have e12 := el.symm.trans el2
    cases e12
    have kcl := k_clashB (S := A0) (F := F + 1) hr1 hw1 hr2 hw2 (hb a) (hb b) hS4
    rw [et] at u6
    rw [er] at u7
    rw [el] at u0
    have lL' := fun (h2 : Heap) => hL.len (h2 := h2)
    rw [el] at lL'
    by_cases hab : a = b
    · have e1 : ((a : Int) == (b : Int)) = true := by simp [hab]
      repeat' (first | refine st ?_ | ((with_reducible apply (r_drawW (id := 15) (js := [0, 1, 2, 3, 4, 5, 6, 7, 8, 9, 10, 11, 12, 13, 14, 15, 16, 17, 18, 19, 20, 21, 22, 23, 24, 25, 26, 27, 28, 29, 30, 31, 32, 33, 34]))); (focus kernel_rfl); (focus kernel_rfl); (focus (exact sd1))) | ((with_reducible apply d_end); (focus (simp only [List.length_cons, List.length_nil, Nat.add_assoc, Nat.reduceAdd, Nat.zero_add] <;> rfl))) | ((with_reducible apply d_any); (focus rfl); (iterate 2 (focus (simp only [↓reduceIte, wantedA_eq, gBool_f, Bool.not_true, clsOf, clsCall, Fr.ev, ofV, ofA, ofS, put_mk, pureOp, pBin, binA, intOp_eql, pPick, List.getElem?_cons_zero, List.getElem?_cons_succ, Nat.reduceLT, Nat.reduceEqDiff, binA, stepOp, stV_mk, stepAny, wantedA_none, readSelf, Tget_set, u10, u11, e1] <;> rfl))); (focus (first | exact SameH.refl _ | (simp only [sameT, sameS hw]; done)))) | ((with_reducible apply r_drawL); (focus kernel_rfl); (focus kernel_rfl); (focus (exact sd1))) | ((with_reducible (first | apply r_any | apply r_cond)); focus (simp only [↓reduceIte, clsOf, clsCall, Fr.ev, ofV, ofA, ofS, put_mk, pureOp, readOp, pBin, binA, intOp_lss, List.getElem?_cons_zero, Nat.reduceLT, Nat.reduceEqDiff, binA, stepOp, stV_mk, stepAny, wantedA_none, rCall, rLen, Tget_set, lt_t hb', lL', intOp_add (show inR ((b : Int) + 1) by unfold inR; omega)] <;> rfl)))
      exact r_rq_n (k := R.length - (b + 1)) (by omega) ⟨_, _, _, b + 1, _, co, rfl, rfl, by omega, rfl, by omega, hlow4, k1, k2, by rw [inE_succ, edge_no (.inl hab), List.append_nil]; exact hO, hc1, hc2, by omega, by omega, by omega, (by first | (simp only [Tget_set, Nat.reduceEqDiff, ↓reduceIte, u0, el] <;> rfl) | rfl), sd8, sd8, (by first | (simp only [Tget_set, Nat.reduceEqDiff, ↓reduceIte, u6, et] <;> rfl) | rfl), (by first | (simp only [Tget_set, Nat.reduceEqDiff, ↓reduceIte, u7, er] <;> rfl) | rfl), sd8, sd8, sd8⟩
    have e1 : ((a : Int) == (b : Int)) = false := by simp; omega
    by_cases hta : whenF (a : Int) 1 ds 0 = ds.length
    · have e2 : (((whenF (a : Int) 1 ds 0 : Nat) : Int) == (ds.length : Int)) = true := by simp [hta]
      repeat' (first | refine st ?_ | ((with_reducible apply (r_drawW (id := 15) (js := [0, 1, 2, 3, 4, 5, 6, 7, 8, 9, 10, 11, 12, 13, 14, 15, 16, 17, 18, 19, 20, 21, 22, 23, 24, 25, 26, 27, 28, 29, 30, 31, 32, 33, 34]))); (focus kernel_rfl); (focus kernel_rfl); (focus (exact sd1))) | ((with_reducible apply d_end); (focus (simp only [List.length_cons, List.length_nil, Nat.add_assoc, Nat.reduceAdd, Nat.zero_add] <;> rfl))) | ((with_reducible apply d_any); (focus rfl); (iterate 2 (focus (simp only [↓reduceIte, wantedA_eq, gBool_f, Bool.not_true, Bool.not_false, clsOf, clsCall, Fr.ev, ofV, ofA, ofS, put_mk, pureOp, readOp, rLd, oneCell_one, pBin, binA, intOp_eql, pPick, List.getElem?_cons_zero, List.getElem?_cons_succ, Nat.reduceLT, Nat.reduceEqDiff, loadA_w, loadW_s, binA, stepOp, stV_mk, sz3, ag3, stepAny, wantedA_none, readSelf, av_int, Tget_set, u5, u6, u10, u11, e1, e2, pIA_s Tryz.underlying84 sz3 la, ta] <;> rfl))); (focus (first | exact SameH.refl _ | (simp only [sameT, sameS hw]; done)))) | ((with_reducible apply r_drawL); (focus kernel_rfl); (focus kernel_rfl); (focus (exact sd1))) | ((with_reducible (first | apply r_any | apply r_cond)); focus (simp only [↓reduceIte, clsOf, clsCall, Fr.ev, ofV, ofA, ofS, put_mk, pureOp, readOp, pBin, binA, intOp_lss, List.getElem?_cons_zero, Nat.reduceLT, Nat.reduceEqDiff, binA, stepOp, stV_mk, stepAny, wantedA_none, rCall, rLen, Tget_set, lt_t hb', lL', intOp_add (show inR ((b : Int) + 1) by unfold inR; omega)] <;> rfl)))
      exact r_rq_n (k := R.length - (b + 1)) (by omega) ⟨_, _, _, b + 1, _, co, rfl, rfl, by omega, rfl, by omega, hlow4, k1, k2, by rw [inE_succ, edge_no (.inr (.inl hta)), List.append_nil]; exact hO, hc1, hc2, by omega, by omega, by omega, (by first | (simp only [Tget_set, Nat.reduceEqDiff, ↓reduceIte, u0, el] <;> rfl) | rfl), sd8, sd8, (by first | (simp only [Tget_set, Nat.reduceEqDiff, ↓reduceIte, u6, et] <;> rfl) | rfl), (by first | (simp only [Tget_set, Nat.reduceEqDiff, ↓reduceIte, u7, er] <;> rfl) | rfl), sd8, sd8, sd8⟩
    have e2 : (((whenF (a : Int) 1 ds 0 : Nat) : Int) == (ds.length : Int)) = false := by simp; omega
    by_cases htb : whenF (b : Int) 1 ds 0 = ds.length
    · have e3 : (((whenF (b : Int) 1 ds 0 : Nat) : Int) == (ds.length : Int)) = true := by simp [htb]
      repeat' (first | refine st ?_ | ((with_reducible apply (r_drawW (id := 15) (js := [0, 1, 2, 3, 4, 5, 6, 7, 8, 9, 10, 11, 12, 13, 14, 15, 16, 17, 18, 19, 20, 21, 22, 23, 24, 25, 26, 27, 28, 29, 30, 31, 32, 33, 34]))); (focus kernel_rfl); (focus kernel_rfl); (focus (exact sd1))) | ((with_reducible apply d_end); (focus (simp only [List.length_cons, List.length_nil, Nat.add_assoc, Nat.reduceAdd, Nat.zero_add] <;> rfl))) | ((with_reducible apply d_any); (focus rfl); (iterate 2 (focus (simp only [↓reduceIte, wantedA_eq, gBool_f, Bool.not_true, Bool.not_false, clsOf, clsCall, Fr.ev, ofV, ofA, ofS, put_mk, pureOp, readOp, rLd, oneCell_one, pBin, binA, intOp_eql, pPick, List.getElem?_cons_zero, List.getElem?_cons_succ, Nat.reduceLT, Nat.reduceEqDiff, loadA_w, loadW_s, binA, stepOp, stV_mk, sz3, ag3, stepAny, wantedA_none, readSelf, av_int, Tget_set, u5, u6, u10, u11, e1, e2, e3, pIA_s Tryz.underlying84 sz3 la, pIA_s Tryz.underlying84 sz3 lb, ta, tb] <;> rfl))); (focus (first | exact SameH.refl _ | (simp only [sameT, sameS hw]; done)))) | ((with_reducible apply r_drawL); (focus kernel_rfl); (focus kernel_rfl); (focus (exact sd1))) | ((with_reducible (first | apply r_any | apply r_cond)); focus (simp only [↓reduceIte, clsOf, clsCall, Fr.ev, ofV, ofA, ofS, put_mk, pureOp, readOp, pBin, binA, intOp_lss, List.getElem?_cons_zero, Nat.reduceLT, Nat.reduceEqDiff, binA, stepOp, stV_mk, stepAny, wantedA_none, rCall, rLen, Tget_set, lt_t hb', lL', intOp_add (show inR ((b : Int) + 1) by unfold inR; omega)] <;> rfl)))
      exact r_rq_n (k := R.length - (b + 1)) (by omega) ⟨_, _, _, b + 1, _, co, rfl, rfl, by omega, rfl, by omega, hlow4, k1, k2, by rw [inE_succ, edge_no (.inr (.inr (.inl htb))), List.append_nil]; exact hO, hc1, hc2, by omega, by omega, by omega, (by first | (simp only [Tget_set, Nat.reduceEqDiff, ↓reduceIte, u0, el] <;> rfl) | rfl), sd8, sd8, (by first | (simp only [Tget_set, Nat.reduceEqDiff, ↓reduceIte, u6, et] <;> rfl) | rfl), (by first | (simp only [Tget_set, Nat.reduceEqDiff, ↓reduceIte, u7, er] <;> rfl) | rfl), sd8, sd8, sd8⟩
    have e3 : (((whenF (b : Int) 1 ds 0 : Nat) : Int) == (ds.length : Int)) = false := by simp; omega
    by_cases hcl : clashP (atL R a) (atL W a) (atL R b) (atL W b)
    rotate_left
    · have hd := dec_f hcl
      repeat' (first | refine st ?_ | ((with_reducible apply (r_drawW (id := 15) (js := [0, 1, 2, 3, 4, 5, 6, 7, 8, 9, 10, 11, 12, 13, 14, 15, 16, 17, 18, 19, 20, 21, 22, 23, 24, 25, 26, 27, 28, 29, 30, 31, 32, 33, 34]))); (focus kernel_rfl); (focus kernel_rfl); (focus (exact sd1))) | ((with_reducible apply d_end); (focus (simp only [List.length_cons, List.length_nil, Nat.add_assoc, Nat.reduceAdd, Nat.zero_add] <;> rfl))) | ((with_reducible apply d_any); (focus rfl); (iterate 2 (focus (simp only [↓reduceIte, wantedA_eq, gBool_f, Bool.not_false, clsOf, clsCall, Fr.ev, evs, put_mk, pureOp, readOp, pFA, pFA1, pFA2, rLd, oneCell_one, someAgg_s, pBin, binA, intOp_eql, pPick, List.getElem?_cons_zero, List.getElem?_cons_succ, Nat.reduceLT, Nat.reduceEqDiff, Nat.add_eq, loadA_w, loadW_a, loadW_s, pUn_not, callTo_s, heavyCall, target, List.nil_append, List.append_nil, binA, Bool.and_true, stepOp, stHeavy, stV_mk, stO_mk, sz3, ag3, sz74, ag74, sz78, Tryz.underlying78, Tryz.underlying81, stepAny, wantedA_none, readSelf, av_int, av_agg, avs_nil, avs_cons, Tget_set, u0, u5, u6, u10, u11, e1, e2, e3, pIA_s Tryz.underlying84 sz3 la, pIA_s Tryz.underlying84 sz3 lb, ta, tb, pIA_s Tryz.underlying43 sz81 haR, pIA_s Tryz.underlying43 sz81 hb', f1, f2, kcl, hd, av_self_L hr1, av_self_L hw1, av_self_L hr2, av_self_L hw2] <;> rfl))); (focus (first | exact SameH.refl _ | (simp only [sameT, sameS hw]; done)))) | ((with_reducible apply r_drawL); (focus kernel_rfl); (focus kernel_rfl); (focus (exact sd1))) | ((with_reducible (first | apply r_any | apply r_cond)); focus (simp only [↓reduceIte, clsOf, clsCall, Fr.ev, ofV, ofA, ofS, put_mk, pureOp, readOp, pBin, binA, intOp_lss, List.getElem?_cons_zero, Nat.reduceLT, Nat.reduceEqDiff, binA, stepOp, stV_mk, stepAny, wantedA_none, rCall, rLen, Tget_set, lt_t hb', lL', intOp_add (show inR ((b : Int) + 1) by unfold inR; omega)] <;> rfl)))
      exact r_rq_n (k := R.length - (b + 1)) (by omega) ⟨_, _, _, b + 1, _, co, rfl, rfl, by omega, rfl, by omega, hlow4, k1, k2, by rw [inE_succ, edge_no (.inr (.inr (.inr hcl))), List.append_nil]; exact hO, hc1, hc2, by omega, by omega, by omega, (by first | (simp only [Tget_set, Nat.reduceEqDiff, ↓reduceIte, u0, el] <;> rfl) | rfl), sd8, sd8, (by first | (simp only [Tget_set, Nat.reduceEqDiff, ↓reduceIte, u6, et] <;> rfl) | rfl), (by first | (simp only [Tget_set, Nat.reduceEqDiff, ↓reduceIte, u7, er] <;> rfl) | rfl), sd8, sd8, sd8⟩
    have hd := dec_t hcl
    by_cases hlt : whenF (b : Int) 0 ds 0 < whenF (a : Int) 1 ds 0
    · by_cases hlt2 : whenF (a : Int) 0 ds 0 < whenF (b : Int) 1 ds 0
      · obtain ⟨h5, ap, hO5, m5⟩ := GrA.app (P := Tryz.prog) (t := 49) (t2 := 49) (k := lc4 + 60 + 5) (f := F + 1) (N := pL [((a : Int), (b : Int))]) (hO.set (k := lc4 + 60 + 4) (b := mkRow [.int .i64 (a : Int), .int .i64 (b : Int)] 2) (by omega)) Tryz.underlying49 Tryz.underlying49 sz100 by2 zo2 (src_21 (by rw [hget_hset, if_pos rfl])) (by simp [pL]) (by decide) (fun x hx => by obtain ⟨p, _, rfl⟩ := List.mem_map.1 hx; rfl) rfl (by have := inE_len (R := R) (W := W) (ds := ds) (a := a) (b := b); have h2 : a * R.length ≤ 100 * 100 := Nat.mul_le_mul (by omega) hn; rw [pL_len, pL_len]; simp; omega) (by decide)
        have low5 : Low F h h5 := fun j hj => (m5 j (by have := ky_le F (lc4 + 60 + 5); omega) (by have := ky_le F co; omega)).trans ((hlow4.set (c := lc4 + 60 + 4) (b := mkRow [.int .i64 (a : Int), .int .i64 (b : Int)] 2) (Nat.le_refl F)) j hj)
        have kk1 : hget h5 (ky F ct) = hget h1 (ky F ct) := by rw [m5 _ (by rw [Ne, ky_inj]; omega) (by rw [Ne, ky_inj]; omega), hget_hset, if_neg (by rw [ky_inj]; omega)]; exact k1
        have kk2 : hget h5 (ky F cr) = hget h1 (ky F cr) := by rw [m5 _ (by rw [Ne, ky_inj]; omega) (by rw [Ne, ky_inj]; omega), hget_hset, if_neg (by rw [ky_inj]; omega)]; exact k2
        repeat' (first | refine st ?_ | ((with_reducible apply (r_drawW (id := 15) (js := [0, 1, 2, 3, 4, 5, 6, 7, 8, 9, 10, 11, 12, 13, 14, 15, 16, 17, 18, 19, 20, 21, 22, 23, 24, 25, 26, 27, 28, 29, 30, 31, 32, 33, 34]))); (focus kernel_rfl); (focus kernel_rfl); (focus (exact sd1))) | ((with_reducible apply d_end); (focus (simp only [List.length_cons, List.length_nil, Nat.add_assoc, Nat.reduceAdd, Nat.zero_add] <;> rfl))) | ((with_reducible apply d_any); (focus rfl); (iterate 2 (focus (simp only [↓reduceIte, wantedA_eq, gBool_t, gBool_f, Bool.not_true, Bool.not_false, clsOf, clsCall, Fr.ev, evs, put_mk, pureOp, readOp, pFA, pFA1, pFA2, rLd, oneCell_one, someAgg_s, pBin, binA, intOp_eql, intOp_lss, pPick, List.getElem?_cons_zero, List.getElem?_cons_succ, Nat.reduceLT, Nat.reduceEqDiff, Nat.add_eq, loadA_w, loadW_a, loadW_s, pUn_not, callTo_s, heavyCall, target, List.nil_append, List.append_nil, binA, Bool.and_true, stepOp, stHeavy, stV_mk, stO_mk, sz3, ag3, sz74, ag74, sz78, Tryz.underlying78, Tryz.underlying81, stepAny, wantedA_none, readSelf, av_int, av_agg, avs_nil, avs_cons, Tget_set, u0, u5, u6, u7, u10, u11, e1, e2, e3, pIA_s Tryz.underlying84 sz3 la, pIA_s Tryz.underlying84 sz3 lb, pIA_s Tryz.underlying84 sz3 la2, pIA_s Tryz.underlying84 sz3 lb2, ta, tb, ra, rb, pIA_s Tryz.underlying43 sz81 haR, pIA_s Tryz.underlying43 sz81 hb', f1, f2, kcl, hd, av_self_L hr1, av_self_L hw1, av_self_L hr2, av_self_L hw2, lt_t hlt, lt_t hlt2] <;> rfl))); (focus (first | exact SameH.refl _ | (simp only [sameT, sameS hw]; done)))) | ((with_reducible apply (r_drawW (id := 16) (js := [0, 1, 2, 3, 4, 5, 6, 7, 8, 9, 10, 11, 12, 13, 14, 15, 16, 17, 18, 19, 20]))); (focus kernel_rfl); (focus kernel_rfl); (focus (exact sd1))) | ((with_reducible apply d_end); (focus (simp only [List.length_cons, List.length_nil, Nat.add_assoc, Nat.reduceAdd, Nat.zero_add] <;> rfl))) | ((with_reducible apply r_drawL); (focus kernel_rfl); (focus kernel_rfl); (focus (exact sd1))) | ((with_reducible (first | apply r_any | apply r_cond)); focus (simp only [↓reduceIte, clsOf, clsCall, newBlk, allocOp, Fr.ev, evParts, ofV, ofA, ofS, AV.cells, put_mk, upd_mk, keyOf_mk, pureOp, readOp, someAgg_s, pBin, binA, intOp_lss, List.length_cons, List.length_nil, List.getElem?_cons_zero, List.getElem?_cons_succ, Nat.zero_add, Nat.reduceAdd, Nat.reduceLT, Nat.reduceEqDiff, heavyCall, pBuild, pBuild2, fieldsOk, buildParts, binA, stepOp, stHeavy, stV_mk, stB_mk, stO_mk, sz2, Tryz.underlying49, zr100, Tryz.underlying100, stepAny, wantedA_none, rCall, rLen, Tget_set, lt_t hb', lL', listC_eq, fill2_0, fill2_1, b12, b22, nBS_21, aBuiltin, aApp, aApp2, outOf, ap, List.length_cons, List.length_nil, Nat.reduceAdd, someAgg_s, intOp_add (show inR ((b : Int) + 1) by unfold inR; omega)] <;> rfl)))
        have hey := edge_yes (R := R) (W := W) (ds := ds) (a := a) (b := b) (fun h => h.elim hab fun h => h.elim hta fun h => h.elim htb fun h => h hcl) (fun h => h.2 hlt2)
        exact r_rq_n (k := R.length - (b + 1)) (by omega) ⟨_, _, _, b + 1, _, lc4 + 60 + 5, rfl, rfl, by omega, rfl, by omega, low5, kk1, kk2, by rw [inE_succ, hey, pL_app]; exact hO5, by omega, by omega, by omega, by omega, by omega, (by first | (simp only [Tget_set, Nat.reduceEqDiff, ↓reduceIte, u0, el] <;> rfl) | rfl), sd8, sd8, (by first | (simp only [Tget_set, Nat.reduceEqDiff, ↓reduceIte, u6, et] <;> rfl) | rfl), (by first | (simp only [Tget_set, Nat.reduceEqDiff, ↓reduceIte, u7, er] <;> rfl) | rfl), sd8, sd8, sd8⟩
      · repeat' (first | refine st ?_ | ((with_reducible apply (r_drawW (id := 15) (js := [0, 1, 2, 3, 4, 5, 6, 7, 8, 9, 10, 11, 12, 13, 14, 15, 16, 17, 18, 19, 20, 21, 22, 23, 24, 25, 26, 27, 28, 29, 30, 31, 32, 33, 34]))); (focus kernel_rfl); (focus kernel_rfl); (focus (exact sd1))) | ((with_reducible apply d_end); (focus (simp only [List.length_cons, List.length_nil, Nat.add_assoc, Nat.reduceAdd, Nat.zero_add] <;> rfl))) | ((with_reducible apply d_any); (focus rfl); (iterate 2 (focus (simp only [↓reduceIte, wantedA_eq, gBool_t, gBool_f, Bool.not_true, Bool.not_false, clsOf, clsCall, Fr.ev, evs, put_mk, pureOp, readOp, pFA, pFA1, pFA2, rLd, oneCell_one, someAgg_s, pBin, binA, intOp_eql, intOp_lss, pPick, List.getElem?_cons_zero, List.getElem?_cons_succ, Nat.reduceLT, Nat.reduceEqDiff, Nat.add_eq, loadA_w, loadW_a, loadW_s, pUn_not, callTo_s, heavyCall, target, List.nil_append, List.append_nil, binA, Bool.and_true, stepOp, stHeavy, stV_mk, stO_mk, sz3, ag3, sz74, ag74, sz78, Tryz.underlying78, Tryz.underlying81, stepAny, wantedA_none, readSelf, av_int, av_agg, avs_nil, avs_cons, Tget_set, u0, u5, u6, u7, u10, u11, e1, e2, e3, pIA_s Tryz.underlying84 sz3 la, pIA_s Tryz.underlying84 sz3 lb, pIA_s Tryz.underlying84 sz3 la2, pIA_s Tryz.underlying84 sz3 lb2, ta, tb, ra, rb, pIA_s Tryz.underlying43 sz81 haR, pIA_s Tryz.underlying43 sz81 hb', f1, f2, kcl, hd, av_self_L hr1, av_self_L hw1, av_self_L hr2, av_self_L hw2, lt_t hlt, lt_f hlt2] <;> rfl))); (focus (first | exact SameH.refl _ | (simp only [sameT, sameS hw]; done)))) | ((with_reducible apply (r_drawW (id := 16) (js := [0, 1, 2, 3, 4, 5, 6, 7, 8, 9, 10, 11, 12, 13, 14, 15, 16, 17, 18, 19, 20]))); (focus kernel_rfl); (focus kernel_rfl); (focus (exact sd1))) | ((with_reducible apply d_end); (focus (simp only [List.length_cons, List.length_nil, Nat.add_assoc, Nat.reduceAdd, Nat.zero_add] <;> rfl))) | ((with_reducible apply r_drawL); (focus kernel_rfl); (focus kernel_rfl); (focus (exact sd1))) | ((with_reducible (first | apply r_any | apply r_cond)); focus (simp only [↓reduceIte, clsOf, clsCall, Fr.ev, ofV, ofA, ofS, put_mk, pureOp, readOp, pBin, binA, intOp_lss, List.getElem?_cons_zero, Nat.reduceLT, Nat.reduceEqDiff, binA, stepOp, stV_mk, stepAny, wantedA_none, rCall, rLen, Tget_set, lt_t hb', lL', intOp_add (show inR ((b : Int) + 1) by unfold inR; omega)] <;> rfl)))
        exact r_rq_n (k := R.length - (b + 1)) (by omega) ⟨_, _, _, b + 1, _, co, rfl, rfl, by omega, rfl, by omega, hlow4, k1, k2, by rw [inE_succ, edge_no2 ⟨hlt, hlt2⟩, List.append_nil]; exact hO, hc1, hc2, by omega, by omega, by omega, (by first | (simp only [Tget_set, Nat.reduceEqDiff, ↓reduceIte, u0, el] <;> rfl) | rfl), sd8, sd8, (by first | (simp only [Tget_set, Nat.reduceEqDiff, ↓reduceIte, u6, et] <;> rfl) | rfl), (by first | (simp only [Tget_set, Nat.reduceEqDiff, ↓reduceIte, u7, er] <;> rfl) | rfl), sd8, sd8, sd8⟩
    · obtain ⟨h5, ap, hO5, m5⟩ := GrA.app (P := Tryz.prog) (t := 49) (t2 := 49) (k := lc4 + 60 + 5) (f := F + 1) (N := pL [((a : Int), (b : Int))]) (hO.set (k := lc4 + 60 + 4) (b := mkRow [.int .i64 (a : Int), .int .i64 (b : Int)] 2) (by omega)) Tryz.underlying49 Tryz.underlying49 sz100 by2 zo2 (src_21 (by rw [hget_hset, if_pos rfl])) (by simp [pL]) (by decide) (fun x hx => by obtain ⟨p, _, rfl⟩ := List.mem_map.1 hx; rfl) rfl (by have := inE_len (R := R) (W := W) (ds := ds) (a := a) (b := b); have h2 : a * R.length ≤ 100 * 100 := Nat.mul_le_mul (by omega) hn; rw [pL_len, pL_len]; simp; omega) (by decide)
      have low5 : Low F h h5 := fun j hj => (m5 j (by have := ky_le F (lc4 + 60 + 5); omega) (by have := ky_le F co; omega)).trans ((hlow4.set (c := lc4 + 60 + 4) (b := mkRow [.int .i64 (a : Int), .int .i64 (b : Int)] 2) (Nat.le_refl F)) j hj)
      have kk1 : hget h5 (ky F ct) = hget h1 (ky F ct) := by rw [m5 _ (by rw [Ne, ky_inj]; omega) (by rw [Ne, ky_inj]; omega), hget_hset, if_neg (by rw [ky_inj]; omega)]; exact k1
      have kk2 : hget h5 (ky F cr) = hget h1 (ky F cr) := by rw [m5 _ (by rw [Ne, ky_inj]; omega) (by rw [Ne, ky_inj]; omega), hget_hset, if_neg (by rw [ky_inj]; omega)]; exact k2
      repeat' (first | refine st ?_ | ((with_reducible apply (r_drawW (id := 15) (js := [0, 1, 2, 3, 4, 5, 6, 7, 8, 9, 10, 11, 12, 13, 14, 15, 16, 17, 18, 19, 20, 21, 22, 23, 24, 25, 26, 27, 28, 29, 30, 31, 32, 33, 34]))); (focus kernel_rfl); (focus kernel_rfl); (focus (exact sd1))) | ((with_reducible apply d_end); (focus (simp only [List.length_cons, List.length_nil, Nat.add_assoc, Nat.reduceAdd, Nat.zero_add] <;> rfl))) | ((with_reducible apply d_any); (focus rfl); (iterate 2 (focus (simp only [↓reduceIte, wantedA_eq, gBool_t, gBool_f, Bool.not_true, Bool.not_false, clsOf, clsCall, Fr.ev, evs, ofV, ofA, ofS, put_mk, pureOp, readOp, pFA, pFA1, pFA2, rLd, oneCell_one, someAgg_s, pBin, binA, intOp_eql, intOp_lss, pPick, List.getElem?_cons_zero, List.getElem?_cons_succ, Nat.reduceLT, Nat.reduceEqDiff, Nat.add_eq, loadA_w, loadW_a, loadW_s, pUn_not, callTo_s, heavyCall, target, List.nil_append, List.append_nil, binA, Bool.and_true, stepOp, stHeavy, stV_mk, stO_mk, sz3, ag3, sz74, ag74, sz78, Tryz.underlying78, Tryz.underlying81, stepAny, wantedA_none, readSelf, av_int, av_agg, avs_nil, avs_cons, Tget_set, u0, u5, u6, u7, u10, u11, e1, e2, e3, pIA_s Tryz.underlying84 sz3 la, pIA_s Tryz.underlying84 sz3 lb, pIA_s Tryz.underlying84 sz3 lb2, ta, tb, rb, pIA_s Tryz.underlying43 sz81 haR, pIA_s Tryz.underlying43 sz81 hb', f1, f2, kcl, hd, av_self_L hr1, av_self_L hw1, av_self_L hr2, av_self_L hw2, lt_f hlt] <;> rfl))); (focus (first | exact SameH.refl _ | (simp only [sameT, sameS hw]; done)))) | ((with_reducible apply (r_drawW (id := 16) (js := [0, 1, 2, 3, 4, 5, 6, 7, 8, 9, 10, 11, 12, 13, 14, 15, 16, 17, 18, 19, 20]))); (focus kernel_rfl); (focus kernel_rfl); (focus (exact sd1))) | ((with_reducible apply d_end); (focus (simp only [List.length_cons, List.length_nil, Nat.add_assoc, Nat.reduceAdd, Nat.zero_add] <;> rfl))) | ((with_reducible apply r_drawL); (focus kernel_rfl); (focus kernel_rfl); (focus (exact sd1))) | ((with_reducible (first | apply r_any | apply r_cond)); focus (simp only [↓reduceIte, clsOf, clsCall, newBlk, allocOp, Fr.ev, evParts, ofV, ofA, ofS, AV.cells, put_mk, upd_mk, keyOf_mk, pureOp, readOp, someAgg_s, pBin, binA, intOp_lss, List.length_cons, List.length_nil, List.getElem?_cons_zero, List.getElem?_cons_succ, Nat.zero_add, Nat.reduceAdd, Nat.reduceLT, Nat.reduceEqDiff, heavyCall, pBuild, pBuild2, fieldsOk, buildParts, binA, stepOp, stHeavy, stV_mk, stB_mk, stO_mk, sz2, Tryz.underlying49, zr100, Tryz.underlying100, stepAny, wantedA_none, rCall, rLen, Tget_set, lt_t hb', lL', listC_eq, fill2_0, fill2_1, b12, b22, nBS_21, aBuiltin, aApp, aApp2, outOf, ap, List.length_cons, List.length_nil, Nat.reduceAdd, someAgg_s, intOp_add (show inR ((b : Int) + 1) by unfold inR; omega)] <;> rfl)))
      have hey := edge_yes (R := R) (W := W) (ds := ds) (a := a) (b := b) (fun h => h.elim hab fun h => h.elim hta fun h => h.elim htb fun h => h hcl) (fun h => hlt h.1)
      exact r_rq_n (k := R.length - (b + 1)) (by omega) ⟨_, _, _, b + 1, _, lc4 + 60 + 5, rfl, rfl, by omega, rfl, by omega, low5, kk1, kk2, by rw [inE_succ, hey, pL_app]; exact hO5, by omega, by omega, by omega, by omega, by omega, (by first | (simp only [Tget_set, Nat.reduceEqDiff, ↓reduceIte, u0, el] <;> rfl) | rfl), sd8, sd8, (by first | (simp only [Tget_set, Nat.reduceEqDiff, ↓reduceIte, u6, et] <;> rfl) | rfl), (by first | (simp only [Tget_set, Nat.reduceEqDiff, ↓reduceIte, u7, er] <;> rfl) | rfl), sd8, sd8, sd8⟩
  rintro fr s1 ⟨lc4, tt, h4, out, co, rfl, rfl, hlc4, hlow4, k1, k2, hO, hc1, hc2, hc3, hc4, hc5, u0, u1, u5, u6, u7, u9, u10⟩
  repeat' (first | refine st ?_ | ((with_reducible apply r_drawL); (focus kernel_rfl); (focus kernel_rfl); (focus (exact sd1))) | ((with_reducible (first | apply r_any | apply r_cond)); focus (simp only [↓reduceIte, clsOf, Fr.ev, ofV, ofA, ofS, put_mk, pureOp, pBin, binA, Nat.reduceLT, binA, stepOp, stV_mk, stepAny, wantedA_none, Tget_set, intOp_add (show inR ((a : Int) + 1) by unfold inR; omega)] <;> rfl)))
  exact r_rq_n (k := R.length - (a + 1)) (by omega) ⟨_, _, _, a + 1, _, co, rfl, rfl, by omega, rfl, by omega, hlow4, k1, k2, by rw [← inE_n]; exact hO, hc1, hc2, by omega, by omega, by omega, sd8, sd8, sd8, sd8, sd8, sd8, sd8⟩

end Go.Proofs.YtfhgiadogeephaaGreatDoor

