/- A part of the proof of the law ReplayAudits. CONDITIONS: those that each theorem names. -/
import Derived.Test.YtfhgiadogeephaaGreatDoorEngineA
import Derived.Test.YtfhgiadogeephaaGreatDoorEngineB
import Derived.Test.YtfhgiadogeephaaGreatDoorEngineC
import Derived.Test.YtfhgiadogeephaaGreatDoorEngineD
import Derived.Test.YtfhgiadogeephaaGreatDoorPartA
import Derived.Test.YtfhgiadogeephaaGreatDoorPartB
import Derived.Test.YtfhgiadogeephaaGreatDoorRA7
import Derived.Test.YtfhgiadogeephaaGreatDoorPartC
import Derived.Test.YtfhgiadogeephaaGreatDoorRA11
import Derived.Test.YtfhgiadogeephaaGreatDoorPartD
import Derived.Test.YtfhgiadogeephaaGreatDoorRA10
import Derived.Test.YtfhgiadogeephaaGreatDoorPartE
import Derived.Test.YtfhgiadogeephaaGreatDoorRA14
import Derived.Test.YtfhgiadogeephaaGreatDoorRA15
import Derived.Test.YtfhgiadogeephaaGreatDoorRA9
namespace Go.Proofs.YtfhgiadogeephaaGreatDoor
open Go Go.Ai
set_option maxRecDepth 100000
end Go.Proofs.YtfhgiadogeephaaGreatDoor

namespace Go.Proofs.YtfhgiadogeephaaGreatDoor
open Go Go.Ai
set_option maxRecDepth 100000
theorem eq_int {P : Program} {d t : Nat} {kk k : IntKind} {a b : Int} (hu : P.underlying t = some (.int kk)) : eqIn P (d + 1) t (.int k a) (.int k b) = some (a == b) := by
  unfold eqIn; simp [hu]
theorem eq_struct {P : Program} {d t : Nat} {fs : Array Field} {xs ys : List AV} (hu : P.underlying t = some (.struct fs)) (hs : P.stoodInHeld t = false) : eqIn P (d + 1) t (.agg xs) (.agg ys) = eqFs P (eqIn P d) xs ys fs.toList := by
  unfold eqIn; simp [hu, hs]
end Go.Proofs.YtfhgiadogeephaaGreatDoor

namespace Go.Proofs.YtfhgiadogeephaaGreatDoor
open Go Go.Ai
set_option maxRecDepth 100000

theorem pr_at {h h1 : Heap} {F : Nat} {a : AV} {l : List (Int × Int)} (hw : Wf ⟨h, F⟩) (hl : LstP h ks2 a (pL l)) (hs : SameH h h1) {i : Nat} {p : Int × Int} (hi : l[i]? = some p) : ∃ b o eo cap, a = .slice b o eo l.length cap ∧ b < ky F 0 ∧ rdAB (hget h1 b) (o + i * 2) 2 = some [.int .i64 p.1, .int .i64 p.2] := by
  have hil := (List.getElem?_eq_some_iff.1 hi).1
  obtain ⟨b, o, eo, cap, e, h0, _⟩ := hl.at (show i < (pL l).length by rw [pL_len]; exact hil)
  have : (pL l)[i]'(by rw [pL_len]; exact hil) = [.int .i64 p.1, .int .i64 p.2] := by
    rw [List.getElem?_eq_getElem hil] at hi
    simp only [pL, List.getElem_map, Option.some.inj hi]
  rw [this] at h0
  rw [pL_len] at e
  exact ⟨b, o, eo, cap, e, rd_low hw h0, hs.rd h0⟩
theorem eg_findA : Tryz.prog.eqGuardType Tryz.prog.depth 92 = false := by kernel_rfl
theorem si_findA : Tryz.prog.stoodInHeld 92 = false := by kernel_rfl
theorem eq_findA (k q k2 q2 : Int) : eqIn Tryz.prog 100 92 (.agg [.int .i64 k, .int .i64 q]) (.agg [.int .i64 k2, .int .i64 q2]) = some (dec ((k, q) = (k2, q2))) := by
  show eqIn Tryz.prog (98 + 2) _ _ _ = _
  rw [eq_struct Tryz.underlying92 si_findA]
  simp only [eqFs, partA, ag3, List.getElem?_cons_zero, List.getElem?_cons_succ, eq_int Tryz.underlying3]
  cases h1 : k == k2 <;> cases h2 : q == q2 <;> simp_all [dec]
set_option maxHeartbeats 2000000 in
theorem findA (h : Heap) (F : Nat) (a b : AV) (l m : List (Int × Int)) (hA : LstP h ks2 a (pL l)) (hB : LstP h ks2 b (pL m)) : Snd Tryz.prog [] 13 [a, b] ⟨h, F⟩ [.val (.bool (dec (l = m))) ⟨h, F⟩] := by
  refine snd_val (by simp [Kin]) fun hw => ?_
  have mxl : maxLen = 9223372036854775807 := by decide
  have lA := fun (h2 : Heap) => rLen1_L (h2 := h2) Tryz.underlying45 hA
  have lB := fun (h2 : Heap) => rLen1_L (h2 := h2) Tryz.underlying45 hB
  rw [pL_len] at lA lB
  have hlA := hA.len
  rw [pL_len] at hlA
  by_cases hlm : l.length = m.length
  rotate_left
  · have n1 : ((l.length : Int) != (m.length : Int)) = true := by simp; omega
    refine sndQ_body (K := (KA A0)) ka_ok mixed noNum (m := 0) Tryz.func13 ?_
    generalize hQ : retQ _ _ _ _ _ _ = Q0
    refine body_go (c := Tryz.f13.body.getD .skip) (n := 26) rfl rfl (by simp only [↓reduceIte, T.setList, T.set_e, T.set_n, Nat.reduceDiv, Nat.reduceMod, Nat.reduceEqDiff, Nat.zero_add] <;> rfl) ?_
    simp only [Tryz.f13, Option.getD_some]
    repeat' (first | refine st ?_ | ((with_reducible apply r_drawL); (focus kernel_rfl); (focus kernel_rfl); (focus (exact sd1))) | ((with_reducible (first | apply r_any | apply r_cond)); focus (simp only [↓reduceIte, clsOf, clsCall, Fr.ev, ofV, ofA, ofS, put_mk, pureOp, readOp, pBin, binA, intOp_neq, List.getElem?_cons_zero, Nat.reduceLT, Nat.reduceEqDiff, Nat.reduceSub, binA, stepOp, stV_mk, T.get_n, T.set_n, T.set_e, Nat.reduceDiv, Nat.reduceMod, stepAny, wantedA_none, rCall, rLen, lA, lB, intOp_neq, n1] <;> rfl)))
    subst hQ
    refine ret_back (by simp only [Tryz.results13, resultOf, resultsA, resultA, List.toList_toArray, Fr.ev, T.get_n, Nat.reduceDiv, Nat.reduceMod, Nat.reduceSub, Nat.reduceEqDiff, ↓reduceIte] <;> rfl) ?_
    exact ⟨_, by rw [dec_f (p := l = m) fun e => hlm (by rw [e])], Same.base _ _ _⟩
  have n1 : ((l.length : Int) != (m.length : Int)) = false := by simp [hlm]
  refine sndQ_body (K := (KA A0)) ka_ok mixed noNum (m := l.length + 1) Tryz.func13 ?_
  generalize hQ : retQ _ _ _ _ _ _ = Q0
  refine body_go (c := Tryz.f13.body.getD .skip) (n := 26) rfl rfl (by simp only [↓reduceIte, T.setList, T.set_e, T.set_n, Nat.reduceDiv, Nat.reduceMod, Nat.reduceEqDiff, Nat.zero_add] <;> rfl) ?_
  simp only [Tryz.f13, Option.getD_some]
  repeat' (first | refine st ?_ | ((with_reducible apply r_drawL); (focus kernel_rfl); (focus kernel_rfl); (focus (exact sd1))) | ((with_reducible (first | apply r_any | apply r_cond)); focus (simp only [↓reduceIte, clsOf, clsCall, Fr.ev, ofV, ofA, ofS, put_mk, pureOp, readOp, pBin, binA, intOp_neq, List.getElem?_cons_zero, Nat.reduceLT, Nat.reduceEqDiff, Nat.reduceSub, binA, stepOp, stV_mk, T.get_n, T.set_n, T.set_e, Nat.reduceDiv, Nat.reduceMod, stepAny, wantedA_none, rCall, rLen, lA, lB, intOp_neq, n1] <;> rfl)))
  refine r_loop (I := fun nn fr s1 => ∃ lc tt i, fr = ⟨F, lc, 26, tt, [], .no⟩ ∧ s1 = ⟨h, F + 1⟩ ∧ i ≤ l.length ∧ nn = l.length - i ∧ lc + nn * 1000 ≤ 100000000000000000000000000 ∧ (∀ j : Nat, j < i → l[j]? = m[j]?) ∧ tt.get 0 = some a ∧ tt.get 1 = some b ∧ tt.get 5 = some (.int .i64 (i : Int))) (n := l.length) ?_ ?_ ?_
  · omega
  · exact ⟨_, _, 0, rfl, rfl, Nat.zero_le _, (Nat.sub_zero _).symm, by omega, fun j hj => absurd hj (Nat.not_lt_zero _), sd8, sd8, sd8⟩
  rintro nn fr s1 ⟨lc, tt, i, rfl, rfl, hi, rfl, hlc, hI, u0, u1, u5⟩
  by_cases hil : i < l.length
  · have him : i < m.length := by omega
    obtain ⟨⟨k, q⟩, hp⟩ : ∃ p, l[i]? = some p := ⟨l[i], by simp⟩
    obtain ⟨⟨k2, q2⟩, hp2⟩ : ∃ p, m[i]? = some p := ⟨m[i], by simp⟩
    obtain ⟨b1, o1, eo1, cap1, rfl, hb1, r1⟩ := pr_at hw hA (SameH.refl h) hp
    obtain ⟨b2, o2, eo2, cap2, rfl, hb2, r2⟩ := pr_at hw hB (SameH.refl h) hp2
    by_cases hc : (k, q) = (k2, q2)
    · have hd := dec_t hc
      repeat' (first | refine st ?_ | ((with_reducible apply (r_drawW (id := 6) (js := [0, 1, 2, 3, 4, 5, 6, 7, 8]))); (focus kernel_rfl); (focus kernel_rfl); (focus (exact sd1))) | ((with_reducible apply d_end); (focus (simp only [List.length_cons, List.length_nil, Nat.add_assoc, Nat.reduceAdd, Nat.zero_add] <;> rfl))) | ((with_reducible apply d_any); (focus rfl); (iterate 2 (focus (simp only [↓reduceIte, Bool.not_true, Bool.not_false, clsOf, Fr.ev, put_mk, pureOp, readOp, rLd, someAgg_s, pBin, binA, Nat.reduceLT, Nat.reduceEqDiff, loadA_w, loadW_a, binA, eqGuardOk, Bool.and_true, stepOp, stV_mk, sz92, ag92, stepAny, wantedA_none, readSelf, av_int, av_agg, avs_nil, avs_cons, Tget_set, u0, u1, u5, pIA_s Tryz.underlying45 sz92 hil, pIA_s Tryz.underlying45 sz92 him, r1, r2, ↓eq_findA, eg_findA, hd] <;> rfl))); (focus (first | exact SameH.refl _ | (simp only [sameT, sameS hw]; done)))) | ((with_reducible apply r_drawL); (focus kernel_rfl); (focus kernel_rfl); (focus (exact sd1))) | ((with_reducible (first | apply r_any | apply r_cond)); focus (simp only [↓reduceIte, clsOf, clsCall, Fr.ev, ofV, ofA, ofS, put_mk, pureOp, readOp, pBin, binA, intOp_lss, List.getElem?_cons_zero, Nat.reduceLT, Nat.reduceEqDiff, binA, stepOp, stV_mk, stepAny, wantedA_none, rCall, rLen, Tget_set, lA, lt_t hil, intOp_add (inR_succ hil hlA)] <;> rfl)))
      refine r_rq_n (k := l.length - (i + 1)) (by omega) ⟨_, _, i + 1, rfl, rfl, by omega, rfl, by omega, fun j hj => ?_, sd8, sd8, sd8⟩
      by_cases hji : j < i
      · exact hI j hji
      · obtain rfl : j = i := by omega
        rw [hp, hp2, hc]
    · have hd := dec_f hc
      repeat' (first | refine st ?_ | ((with_reducible apply (r_drawW (id := 6) (js := [0, 1, 2, 3, 4, 5, 6, 7, 8]))); (focus kernel_rfl); (focus kernel_rfl); (focus (exact sd1))) | ((with_reducible apply d_end); (focus (simp only [List.length_cons, List.length_nil, Nat.add_assoc, Nat.reduceAdd, Nat.zero_add] <;> rfl))) | ((with_reducible apply d_any); (focus rfl); (iterate 2 (focus (simp only [↓reduceIte, Bool.not_false, clsOf, Fr.ev, put_mk, pureOp, readOp, rLd, someAgg_s, pBin, binA, Nat.reduceLT, Nat.reduceEqDiff, loadA_w, loadW_a, binA, eqGuardOk, Bool.and_true, stepOp, stV_mk, sz92, ag92, stepAny, wantedA_none, readSelf, av_int, av_agg, avs_nil, avs_cons, Tget_set, u0, u1, u5, pIA_s Tryz.underlying45 sz92 hil, pIA_s Tryz.underlying45 sz92 him, r1, r2, ↓eq_findA, eg_findA, hd] <;> rfl))); (focus (first | exact SameH.refl _ | (simp only [sameT, sameS hw]; done)))) | ((with_reducible apply r_drawL); (focus kernel_rfl); (focus kernel_rfl); (focus (exact sd1))) | ((with_reducible (first | apply r_any | apply r_cond)); focus (simp only [↓reduceIte, clsOf, clsCall, Fr.ev, ofV, ofA, ofS, put_mk, pureOp, readOp, pBin, binA, intOp_lss, List.getElem?_cons_zero, Nat.reduceLT, Nat.reduceEqDiff, binA, stepOp, stV_mk, stepAny, wantedA_none, rCall, rLen, Tget_set, lA, lt_t hil] <;> rfl)))
      subst hQ
      refine ret_back (by simp only [Tryz.results13, resultOf, resultsA, resultA, List.toList_toArray, Fr.ev, Tget_set, ↓reduceIte] <;> rfl) ?_
      exact ⟨_, by rw [dec_f (p := l = m) fun e => hc (by rw [e] at hp; rw [hp] at hp2; exact Option.some.inj hp2)], Same.base _ _ _⟩
  · repeat' (first | refine st ?_ | ((with_reducible apply r_drawL); (focus kernel_rfl); (focus kernel_rfl); (focus (exact sd1))) | ((with_reducible (first | apply r_any | apply r_cond)); focus (simp only [↓reduceIte, clsOf, clsCall, Fr.ev, ofV, ofA, ofS, put_mk, pureOp, readOp, pBin, binA, intOp_lss, List.getElem?_cons_zero, Nat.reduceLT, Nat.reduceEqDiff, binA, stepOp, stV_mk, stepAny, wantedA_none, rCall, rLen, Tget_set, lA, lt_f hil] <;> rfl)))
    subst hQ
    refine ret_back (by simp only [Tryz.results13, resultOf, resultsA, resultA, List.toList_toArray, Fr.ev, Tget_set, ↓reduceIte] <;> rfl) ?_
    exact ⟨_, by rw [dec_t (p := l = m) (List.ext_getElem? fun j => by
      by_cases hj : j < i
      · exact hI j hj
      · rw [List.getElem?_eq_none (by omega), List.getElem?_eq_none (by omega)])], Same.base _ _ _⟩
theorem eg_edgeA : Tryz.prog.eqGuardType Tryz.prog.depth 100 = false := by kernel_rfl
theorem si_edgeA : Tryz.prog.stoodInHeld 100 = false := by kernel_rfl
theorem eq_edgeA (k q k2 q2 : Int) : eqIn Tryz.prog 100 100 (.agg [.int .i64 k, .int .i64 q]) (.agg [.int .i64 k2, .int .i64 q2]) = some (dec ((k, q) = (k2, q2))) := by
  show eqIn Tryz.prog (98 + 2) _ _ _ = _
  rw [eq_struct Tryz.underlying100 si_edgeA]
  simp only [eqFs, partA, ag2, List.getElem?_cons_zero, List.getElem?_cons_succ, eq_int Tryz.underlying2]
  cases h1 : k == k2 <;> cases h2 : q == q2 <;> simp_all [dec]
set_option maxHeartbeats 2000000 in
theorem edgeA (h : Heap) (F : Nat) (a b : AV) (l m : List (Int × Int)) (hA : LstP h ks2 a (pL l)) (hB : LstP h ks2 b (pL m)) : Snd Tryz.prog [] 15 [a, b] ⟨h, F⟩ [.val (.bool (dec (l = m))) ⟨h, F⟩] := by
  refine snd_val (by simp [Kin]) fun hw => ?_
  have mxl : maxLen = 9223372036854775807 := by decide
  have lA := fun (h2 : Heap) => rLen1_L (h2 := h2) Tryz.underlying49 hA
  have lB := fun (h2 : Heap) => rLen1_L (h2 := h2) Tryz.underlying49 hB
  rw [pL_len] at lA lB
  have hlA := hA.len
  rw [pL_len] at hlA
  by_cases hlm : l.length = m.length
  rotate_left
  · have n1 : ((l.length : Int) != (m.length : Int)) = true := by simp; omega
    refine sndQ_body (K := (KA A0)) ka_ok mixed noNum (m := 0) Tryz.func15 ?_
    generalize hQ : retQ _ _ _ _ _ _ = Q0
    refine body_go (c := Tryz.f15.body.getD .skip) (n := 26) rfl rfl (by simp only [↓reduceIte, T.setList, T.set_e, T.set_n, Nat.reduceDiv, Nat.reduceMod, Nat.reduceEqDiff, Nat.zero_add] <;> rfl) ?_
    simp only [Tryz.f15, Option.getD_some]
    repeat' (first | refine st ?_ | ((with_reducible apply r_drawL); (focus kernel_rfl); (focus kernel_rfl); (focus (exact sd1))) | ((with_reducible (first | apply r_any | apply r_cond)); focus (simp only [↓reduceIte, clsOf, clsCall, Fr.ev, ofV, ofA, ofS, put_mk, pureOp, readOp, pBin, binA, intOp_neq, List.getElem?_cons_zero, Nat.reduceLT, Nat.reduceEqDiff, Nat.reduceSub, binA, stepOp, stV_mk, T.get_n, T.set_n, T.set_e, Nat.reduceDiv, Nat.reduceMod, stepAny, wantedA_none, rCall, rLen, lA, lB, intOp_neq, n1] <;> rfl)))
    subst hQ
    refine ret_back (by simp only [Tryz.results15, resultOf, resultsA, resultA, List.toList_toArray, Fr.ev, T.get_n, Nat.reduceDiv, Nat.reduceMod, Nat.reduceSub, Nat.reduceEqDiff, ↓reduceIte] <;> rfl) ?_
    exact ⟨_, by rw [dec_f (p := l = m) fun e => hlm (by rw [e])], Same.base _ _ _⟩
  have n1 : ((l.length : Int) != (m.length : Int)) = false := by simp [hlm]
  refine sndQ_body (K := (KA A0)) ka_ok mixed noNum (m := l.length + 1) Tryz.func15 ?_
  generalize hQ : retQ _ _ _ _ _ _ = Q0
  refine body_go (c := Tryz.f15.body.getD .skip) (n := 26) rfl rfl (by simp only [↓reduceIte, T.setList, T.set_e, T.set_n, Nat.reduceDiv, Nat.reduceMod, Nat.reduceEqDiff, Nat.zero_add] <;> rfl) ?_
  simp only [Tryz.f15, Option.getD_some]
  repeat' (first | refine st ?_ | ((with_reducible apply r_drawL); (focus kernel_rfl); (focus kernel_rfl); (focus (exact sd1))) | ((with_reducible (first | apply r_any | apply r_cond)); focus (simp only [↓reduceIte, clsOf, clsCall, Fr.ev, ofV, ofA, ofS, put_mk, pureOp, readOp, pBin, binA, intOp_neq, List.getElem?_cons_zero, Nat.reduceLT, Nat.reduceEqDiff, Nat.reduceSub, binA, stepOp, stV_mk, T.get_n, T.set_n, T.set_e, Nat.reduceDiv, Nat.reduceMod, stepAny, wantedA_none, rCall, rLen, lA, lB, intOp_neq, n1] <;> rfl)))
  refine r_loop (I := fun nn fr s1 => ∃ lc tt i, fr = ⟨F, lc, 26, tt, [], .no⟩ ∧ s1 = ⟨h, F + 1⟩ ∧ i ≤ l.length ∧ nn = l.length - i ∧ lc + nn * 1000 ≤ 100000000000000000000000000 ∧ (∀ j : Nat, j < i → l[j]? = m[j]?) ∧ tt.get 0 = some a ∧ tt.get 1 = some b ∧ tt.get 5 = some (.int .i64 (i : Int))) (n := l.length) ?_ ?_ ?_
  · omega
  · exact ⟨_, _, 0, rfl, rfl, Nat.zero_le _, (Nat.sub_zero _).symm, by omega, fun j hj => absurd hj (Nat.not_lt_zero _), sd8, sd8, sd8⟩
  rintro nn fr s1 ⟨lc, tt, i, rfl, rfl, hi, rfl, hlc, hI, u0, u1, u5⟩
  by_cases hil : i < l.length
  · have him : i < m.length := by omega
    obtain ⟨⟨k, q⟩, hp⟩ : ∃ p, l[i]? = some p := ⟨l[i], by simp⟩
    obtain ⟨⟨k2, q2⟩, hp2⟩ : ∃ p, m[i]? = some p := ⟨m[i], by simp⟩
    obtain ⟨b1, o1, eo1, cap1, rfl, hb1, r1⟩ := pr_at hw hA (SameH.refl h) hp
    obtain ⟨b2, o2, eo2, cap2, rfl, hb2, r2⟩ := pr_at hw hB (SameH.refl h) hp2
    by_cases hc : (k, q) = (k2, q2)
    · have hd := dec_t hc
      repeat' (first | refine st ?_ | ((with_reducible apply (r_drawW (id := 6) (js := [0, 1, 2, 3, 4, 5, 6, 7, 8]))); (focus kernel_rfl); (focus kernel_rfl); (focus (exact sd1))) | ((with_reducible apply d_end); (focus (simp only [List.length_cons, List.length_nil, Nat.add_assoc, Nat.reduceAdd, Nat.zero_add] <;> rfl))) | ((with_reducible apply d_any); (focus rfl); (iterate 2 (focus (simp only [↓reduceIte, Bool.not_true, Bool.not_false, clsOf, Fr.ev, put_mk, pureOp, readOp, rLd, someAgg_s, pBin, binA, Nat.reduceLT, Nat.reduceEqDiff, loadA_w, loadW_a, binA, eqGuardOk, Bool.and_true, stepOp, stV_mk, sz100, ag100, stepAny, wantedA_none, readSelf, av_int, av_agg, avs_nil, avs_cons, Tget_set, u0, u1, u5, pIA_s Tryz.underlying49 sz100 hil, pIA_s Tryz.underlying49 sz100 him, r1, r2, ↓eq_edgeA, eg_edgeA, hd] <;> rfl))); (focus (first | exact SameH.refl _ | (simp only [sameT, sameS hw]; done)))) | ((with_reducible apply r_drawL); (focus kernel_rfl); (focus kernel_rfl); (focus (exact sd1))) | ((with_reducible (first | apply r_any | apply r_cond)); focus (simp only [↓reduceIte, clsOf, clsCall, Fr.ev, ofV, ofA, ofS, put_mk, pureOp, readOp, pBin, binA, intOp_lss, List.getElem?_cons_zero, Nat.reduceLT, Nat.reduceEqDiff, binA, stepOp, stV_mk, stepAny, wantedA_none, rCall, rLen, Tget_set, lA, lt_t hil, intOp_add (inR_succ hil hlA)] <;> rfl)))
      refine r_rq_n (k := l.length - (i + 1)) (by omega) ⟨_, _, i + 1, rfl, rfl, by omega, rfl, by omega, fun j hj => ?_, sd8, sd8, sd8⟩
      by_cases hji : j < i
      · exact hI j hji
      · obtain rfl : j = i := by omega
        rw [hp, hp2, hc]
    · have hd := dec_f hc
      repeat' (first | refine st ?_ | ((with_reducible apply (r_drawW (id := 6) (js := [0, 1, 2, 3, 4, 5, 6, 7, 8]))); (focus kernel_rfl); (focus kernel_rfl); (focus (exact sd1))) | ((with_reducible apply d_end); (focus (simp only [List.length_cons, List.length_nil, Nat.add_assoc, Nat.reduceAdd, Nat.zero_add] <;> rfl))) | ((with_reducible apply d_any); (focus rfl); (iterate 2 (focus (simp only [↓reduceIte, Bool.not_false, clsOf, Fr.ev, put_mk, pureOp, readOp, rLd, someAgg_s, pBin, binA, Nat.reduceLT, Nat.reduceEqDiff, loadA_w, loadW_a, binA, eqGuardOk, Bool.and_true, stepOp, stV_mk, sz100, ag100, stepAny, wantedA_none, readSelf, av_int, av_agg, avs_nil, avs_cons, Tget_set, u0, u1, u5, pIA_s Tryz.underlying49 sz100 hil, pIA_s Tryz.underlying49 sz100 him, r1, r2, ↓eq_edgeA, eg_edgeA, hd] <;> rfl))); (focus (first | exact SameH.refl _ | (simp only [sameT, sameS hw]; done)))) | ((with_reducible apply r_drawL); (focus kernel_rfl); (focus kernel_rfl); (focus (exact sd1))) | ((with_reducible (first | apply r_any | apply r_cond)); focus (simp only [↓reduceIte, clsOf, clsCall, Fr.ev, ofV, ofA, ofS, put_mk, pureOp, readOp, pBin, binA, intOp_lss, List.getElem?_cons_zero, Nat.reduceLT, Nat.reduceEqDiff, binA, stepOp, stV_mk, stepAny, wantedA_none, rCall, rLen, Tget_set, lA, lt_t hil] <;> rfl)))
      subst hQ
      refine ret_back (by simp only [Tryz.results15, resultOf, resultsA, resultA, List.toList_toArray, Fr.ev, Tget_set, ↓reduceIte] <;> rfl) ?_
      exact ⟨_, by rw [dec_f (p := l = m) fun e => hc (by rw [e] at hp; rw [hp] at hp2; exact Option.some.inj hp2)], Same.base _ _ _⟩
  · repeat' (first | refine st ?_ | ((with_reducible apply r_drawL); (focus kernel_rfl); (focus kernel_rfl); (focus (exact sd1))) | ((with_reducible (first | apply r_any | apply r_cond)); focus (simp only [↓reduceIte, clsOf, clsCall, Fr.ev, ofV, ofA, ofS, put_mk, pureOp, readOp, pBin, binA, intOp_lss, List.getElem?_cons_zero, Nat.reduceLT, Nat.reduceEqDiff, binA, stepOp, stV_mk, stepAny, wantedA_none, rCall, rLen, Tget_set, lA, lt_f hil] <;> rfl)))
    subst hQ
    refine ret_back (by simp only [Tryz.results15, resultOf, resultsA, resultA, List.toList_toArray, Fr.ev, Tget_set, ↓reduceIte] <;> rfl) ?_
    exact ⟨_, by rw [dec_t (p := l = m) (List.ext_getElem? fun j => by
      by_cases hj : j < i
      · exact hI j hj
      · rw [List.getElem?_eq_none (by omega), List.getElem?_eq_none (by omega)])], Same.base _ _ _⟩
theorem k_findA {S : FuncId → List AV → St → Out → Prop} {h h1 : Heap} {F : Nat} {a b : AV} {l m : List (Int × Int)} (hA : LstP h ks2 a (pL l)) (hB : LstP h ks2 b (pL m)) (hs : SameH h h1) : CallF.fn (KA S) 13 [a, b] ⟨h1, F⟩ = some [.val (.bool (dec (l = m))) ⟨h1, F⟩] :=
  ka_fn ((rfl : _ = aPr [a, b] ⟨h1, F⟩).trans (by simp only [aPr, prO_same hA hs, prO_same hB hs])) (findA h1 F a b l m (hA.same hs) (hB.same hs))
theorem k_edgeA {S : FuncId → List AV → St → Out → Prop} {h h1 : Heap} {F : Nat} {a b : AV} {l m : List (Int × Int)} (hA : LstP h ks2 a (pL l)) (hB : LstP h ks2 b (pL m)) (hs : SameH h h1) : CallF.fn (KA S) 15 [a, b] ⟨h1, F⟩ = some [.val (.bool (dec (l = m))) ⟨h1, F⟩] :=
  ka_fn ((rfl : _ = aPr [a, b] ⟨h1, F⟩).trans (by simp only [aPr, prO_same hA hs, prO_same hB hs])) (edgeA h1 F a b l m (hA.same hs) (hB.same hs))

end Go.Proofs.YtfhgiadogeephaaGreatDoor

namespace Go.Proofs.YtfhgiadogeephaaGreatDoor
open Go Go.Ai
set_option maxRecDepth 100000
theorem run5 : saysTrue (call Tryz.prog [] X2 2000 200 5 [] ⟨.e, 0⟩) = true := by kernel_rfl
theorem body5 : ∃ c, Tryz.f5.body = some c := Option.isSome_iff_exists.1 (by kernel_rfl)
end Go.Proofs.YtfhgiadogeephaaGreatDoor

