/- A part of the proof of the law ReconCaches. CONDITIONS: those that each theorem names. -/
import Derived.Test.YtmnhaoadhkdinaaGreatDoorPartA
import Derived.Test.YtmnhaoadhkdinaaGreatDoorPartC
namespace Go.Proofs.YtmnhaoadhkdinaaGreatDoor
open Go Go.Ai
set_option maxRecDepth 100000

theorem k_live {S : FuncId → List AV → St → Out → Prop} {h : Heap} {F : Nat} : CallF.fn (KR S) 5 [] ⟨h, F⟩ = some [.val (.bool true) ⟨h, F⟩] := by
  obtain ⟨_, hb⟩ := body5
  exact kr_fn rfl (snd_true x2_ok mixed noNum run5 Tryz.func5 hb ⟨h, F⟩)
theorem k_cached {S : FuncId → List AV → St → Out → Prop} {h : Heap} {F : Nat} : CallF.fn (KR S) 4 [] ⟨h, F⟩ = some [.val (.bool true) ⟨h, F⟩] := by
  obtain ⟨_, hb⟩ := body4
  exact kr_fn rfl (snd_true x2_ok mixed noNum run4 Tryz.func4 hb ⟨h, F⟩)
theorem by_W : bytesT Tryz.prog 68 = some 56 := by kernel_rfl
theorem zo_W : zeroOk Tryz.prog 68 5 56 = true := by kernel_rfl
theorem nBS_W {key : Nat} : nBS Tryz.prog key 0 (some (.slice 68)) (some []) = some (.slice key 0 0 0 (some 0), mkRow [] 5) := by
  have tg : tagA Tryz.prog 68 = 0 := by kernel_rfl
  simp only [nBS, nBS2, sz68, zr68, repl, AV.cells, nBS3, rowT_mk, buildArr, tg, mkRowT_0]
  rfl
def normQ (R : Fr → St → Prop) : Ex → Fr → St → Prop
  | .normal, fr, s => R fr s
  | _, _, _ => False
theorem norm_at {R : Fr → St → Prop} {fr : Fr} {s : St} (h : R fr s) : normQ R .normal fr s := h
theorem cutN {P : Program} {G : Glob} {K : CallF} {m : Nat} {Q : Ex → Fr → St → Prop} {c : Code} {fr : Fr} {s : St} {R : Fr → St → Prop} (h : WR (code P G K m c fr s) (normQ R)) (h2 : ∀ fr s, R fr s → Q .normal fr s) : WR (code P G K m c fr s) Q := by
  refine WR.mono h ?_
  intro e fr s he
  cases e with
  | normal => exact h2 _ _ he
  | exit i => exact he.elim
  | ret => exact he.elim
  | pan v => exact he.elim
set_option maxHeartbeats 64000000 in
theorem lawA (hh : Heap) (F : Nat) (m : Int) (l : AV) (D : List DV) (hD' : DidP hh l D) (hb0 : ∀ d ∈ D, d.n ≤ 100000000) :
    SndQ Tryz.prog [] 3 [.int .i64 m, l] ⟨hh, F⟩ (fun o => ∃ s', o = .val (.bool true) s') := by
  have mxl : maxLen = 9223372036854775807 := by decide
  refine sndQ_wf fun hwf => sndQ_clean fun h hw hlow0 hcl => ?_
  have hD := hD'.same (hlow0.same hwf)
  have lD := fun (h2 : Heap) => hD.len (h2 := h2)
  have hDl := hD.max
  refine sndQ_body (K := (KR SL)) kr_ok mixed noNum (m := D.length + 1302) Tryz.func3 ?_
  generalize hQ : retQ _ _ _ _ _ _ = Q0
  refine body_go (c := Tryz.f3.body.getD .skip) (n := 253) rfl rfl (by simp only [↓reduceIte, T.setList, T.set_e, T.set_n, Nat.reduceDiv, Nat.reduceMod, Nat.reduceEqDiff, Nat.zero_add] <;> rfl) ?_
  simp only [Tryz.f3, Option.getD_some]
  repeat' (first | refine st ?_ | ((with_reducible apply r_drawL); (focus kernel_rfl); (focus kernel_rfl); (focus (exact sd1))) | ((with_reducible (first | apply r_any | apply r_cond)); focus (simp only [↓reduceIte, clsOf, Fr.ev, ofV, ofA, ofS, put_mk, pureOp, Nat.reduceLT, Nat.reduceEqDiff, Nat.reduceSub, stepOp, stV_mk, T.set_n, T.set_e, Nat.reduceDiv, Nat.reduceMod, stepAny, wantedA_none] <;> rfl)))
  refine r_loopE (j := 0) (R := fun fr s1 => ∃ lc tt N, fr = ⟨F, lc, 253, tt, [], .no⟩ ∧ s1 = ⟨h, F + 1⟩ ∧ lc ≤ 100000000000000000000001000 ∧ N = smD D (min D.length 1301) ∧ N ≤ 1000000000000 ∧ tt.get 0 = some (.int .i64 m) ∧ tt.get 1 = some l ∧ tt.get 5 = some (.int .i64 (N : Int))) (I := fun nn fr s1 => ∃ lc tt i, fr = ⟨F, lc, 253, tt, [], .no⟩ ∧ s1 = ⟨h, F + 1⟩ ∧ i ≤ D.length ∧ i ≤ 1301 ∧ nn = 1301 - i ∧ lc + nn * 1000 ≤ 100000000000000000000000000 ∧ smD D i ≤ i * 100000000 ∧ tt.get 0 = some (.int .i64 m) ∧ tt.get 1 = some l ∧ tt.get 5 = some (.int .i64 (smD D i : Int)) ∧ tt.get 6 = some (.int .i64 (i : Int))) (n := 1301) ?_ ?_ ?_ ?_
  · omega
  · exact ⟨_, _, 0, rfl, rfl, Nat.zero_le _, by omega, rfl, by omega, by simp [smD_zero], sd8, sd8, (by first | (simp only [T.get_n, Nat.reduceEqDiff, Nat.reduceDiv, Nat.reduceMod, Nat.reduceSub, ↓reduceIte, smD_zero] <;> rfl) | rfl), sd8⟩
  · rintro nn fr s1 ⟨lc, tt, i, rfl, rfl, hi, hi5, rfl, hlc, hN, u0, u1, u5, u6⟩
    by_cases hil : i < D.length
    · by_cases h5 : i ≤ 1300
      · have le1 : decide ((i : Int) ≤ 1300) = true := decide_eq_true (by omega)
        obtain ⟨b, o, eo, cap, d, a, r, w, i9, ra, wv, rfl, hbk, hd, _, hp, _, k1, k2, k3, k4, k5, k6⟩ := did_at hw hD hil
        have q4 : rdAB (hget h b) (o + i * 14 + 4) 1 = some [a] := hp 4 1 (by decide)
        have q6 : rdAB (hget h b) (o + i * 14 + 6) 1 = some [r] := hp 6 1 (by decide)
        have q7 : rdAB (hget h b) (o + i * 14 + 7) 1 = some [w] := hp 7 1 (by decide)
        have q8 : rdAB (hget h b) (o + i * 14 + 8) 1 = some [i9] := hp 8 1 (by decide)
        have q12 : rdAB (hget h b) (o + i * 14 + 12) 1 = some [ra] := hp 12 1 (by decide)
        have q13 : rdAB (hget h b) (o + i * 14 + 13) 1 = some [wv] := hp 13 1 (by decide)
        have hdb := hb0 d (List.mem_of_getElem? hd)
        unfold DV.n at hdb
        have l1 := fun (h2 : Heap) => rLen1_L (h2 := h2) Tryz.underlying24 k1
        have l2 := fun (h2 : Heap) => rLen1_L (h2 := h2) Tryz.underlying27 k2
        have l3 := fun (h2 : Heap) => rLen1_L (h2 := h2) Tryz.underlying27 k3
        rw [tL_len] at l2 l3
        have l4 := fun (h2 : Heap) => rLen1_L (h2 := h2) Tryz.underlying32 k4
        have l5 := fun (h2 : Heap) => rLen1_L (h2 := h2) Tryz.underlying24 k5
        have l6 := fun (h2 : Heap) => rLen1_L (h2 := h2) Tryz.underlying35 k6
        have ad1 := intOp_add (P := Tryz.prog) (t := 3) (show inR ((smD D i : Int) + (d.ps.it.length : Int)) by unfold inR; omega)
        have ad2 := intOp_add (P := Tryz.prog) (t := 3) (show inR ((smD D i : Int) + (d.ps.it.length : Int) + (d.w.length : Int)) by unfold inR; omega)
        have ad3 := intOp_add (P := Tryz.prog) (t := 3) (show inR ((smD D i : Int) + (d.ps.it.length : Int) + (d.w.length : Int) + (d.rargs.length : Int)) by unfold inR; omega)
        have ad4 := intOp_add (P := Tryz.prog) (t := 3) (show inR ((smD D i : Int) + (d.ps.it.length : Int) + (d.w.length : Int) + (d.rargs.length : Int) + (d.ps.args.length : Int)) by unfold inR; omega)
        have ad5 := intOp_add (P := Tryz.prog) (t := 3) (show inR ((smD D i : Int) + (d.ps.it.length : Int) + (d.w.length : Int) + (d.rargs.length : Int) + (d.ps.args.length : Int) + (d.ps.rd.length : Int)) by unfold inR; omega)
        have ad6 : intOp Tryz.prog .add 3 .i64 .i64 ((smD D i : Int) + (d.ps.it.length : Int) + (d.w.length : Int) + (d.rargs.length : Int) + (d.ps.args.length : Int) + (d.ps.rd.length : Int)) (d.ps.wr.length : Int) = some (.int .i64 (smD D (i + 1) : Int)) := by
          rw [intOp_add (P := Tryz.prog) (t := 3) (show inR ((smD D i : Int) + (d.ps.it.length : Int) + (d.w.length : Int) + (d.rargs.length : Int) + (d.ps.args.length : Int) + (d.ps.rd.length : Int) + (d.ps.wr.length : Int)) by unfold inR; omega), smD_succ hd]
          unfold DV.n
          congr 2
          omega
        have ad := intOp_add (P := Tryz.prog) (t := 3) (show inR ((i : Int) + 1) by unfold inR; omega)
        have hs1 : smD D (i + 1) ≤ (i + 1) * 100000000 := by
          rw [smD_succ hd]; unfold DV.n; omega
        repeat' (first | refine st ?_ | ((with_reducible apply (r_drawW (id := 5) (js := [0, 1, 2, 3, 4, 5, 6, 7, 8, 9, 10, 11, 12, 13, 14, 15, 16, 17, 18, 19, 20, 21, 22, 23, 24, 25, 26, 27, 28, 29, 30, 31, 32, 33, 34, 35, 36, 37, 38, 39, 40, 41, 42, 43, 44, 45, 46, 47, 48, 49, 50, 51, 52, 53, 54]))); (focus kernel_rfl); (focus kernel_rfl); (focus (exact sd1))) | ((with_reducible apply d_end); (focus (simp only [List.length_cons, List.length_nil, Nat.add_assoc, Nat.reduceAdd, Nat.zero_add] <;> rfl))) | ((with_reducible apply d_any); (focus rfl); (iterate 2 (focus (simp only [↓reduceIte, clsOf, clsCall, Fr.ev, put_mk, pureOp, readOp, pFA, pFA1, pFA2, rLd, oneCell_one, pBin, binA, List.getElem?_cons_zero, List.getElem?_cons_succ, Nat.add_zero, Nat.reduceLT, Nat.reduceEqDiff, Nat.add_eq, loadA_w, loadW_s, binA, stepOp, stV_mk, sz24, ag24, sz26, Tryz.underlying26, sz27, ag27, sz29, Tryz.underlying29, sz31, Tryz.underlying31, sz32, ag32, sz34, Tryz.underlying34, sz35, ag35, Tryz.underlying37, stepAny, wantedA_none, readSelf, av_int, rCall, rLen, Tget_set, u1, u5, u6, pIA_s Tryz.underlying22 sz37 hil, q4, q6, q7, q8, q12, q13, l1, l2, l3, l4, l5, l6, ad1, ad2, ad3, ad4, ad5, ad6, av_self_L k1, av_self_L k2, av_self_L k3, av_self_L k4, av_self_L k5, av_self_L k6] <;> rfl))); (focus (first | exact SameH.refl _ | (simp only [sameT, sameS hw]; done)))) | ((with_reducible apply r_drawL); (focus kernel_rfl); (focus kernel_rfl); (focus (exact sd1))) | ((with_reducible (first | apply r_any | apply r_cond)); focus (simp only [↓reduceIte, clsOf, clsCall, Fr.ev, ofV, ofA, ofS, put_mk, pureOp, readOp, pBin, binA, intOp_lss, intOp_leq, pPick, List.getElem?_cons_zero, Nat.reduceLT, Nat.reduceEqDiff, binA, stepOp, stV_mk, stepAny, wantedA_none, rCall, rLen, Tget_set, lD, ad, lt_t hil, le1] <;> rfl)))
        exact r_rq_n (k := 1301 - (i + 1)) (by omega) ⟨_, _, i + 1, rfl, rfl, by omega, by omega, rfl, by omega, hs1, sd8, sd8, sd8, sd8⟩
      · have le1 : decide ((i : Int) ≤ 1300) = false := decide_eq_false (by omega)
        repeat' (first | refine st ?_ | ((with_reducible apply r_drawL); (focus kernel_rfl); (focus kernel_rfl); (focus (exact sd1))) | ((with_reducible (first | apply r_any | apply r_cond)); focus (simp only [↓reduceIte, clsOf, clsCall, Fr.ev, ofV, ofA, ofS, put_mk, pureOp, readOp, pBin, binA, intOp_lss, intOp_leq, pPick, List.getElem?_cons_zero, Nat.reduceLT, Nat.reduceEqDiff, binA, stepOp, stV_mk, stepAny, wantedA_none, rCall, rLen, Tget_set, lD, lt_t hil, le1] <;> rfl)))
        exact exit_at ⟨_, _, smD D i, rfl, rfl, by omega, by rw [show min D.length 1301 = i by omega], by omega, sd8, sd8, sd8⟩
    · repeat' (first | refine st ?_ | ((with_reducible apply r_drawL); (focus kernel_rfl); (focus kernel_rfl); (focus (exact sd1))) | ((with_reducible (first | apply r_any | apply r_cond)); focus (simp only [↓reduceIte, wantedA_eq, gBool_t, clsOf, clsCall, Fr.ev, ofV, ofA, ofS, put_mk, pureOp, readOp, pBin, binA, intOp_lss, pPick, List.getElem?_cons_zero, List.getElem?_cons_succ, Nat.reduceLT, Nat.reduceEqDiff, binA, stepOp, stV_mk, stepAny, wantedA_none, rCall, rLen, Tget_set, lD, lt_f hil] <;> rfl)))
      exact exit_at ⟨_, _, smD D i, rfl, rfl, by omega, by rw [show min D.length 1301 = i by omega], by omega, sd8, sd8, sd8⟩
  rintro fr s1 ⟨lc, tt, N, rfl, rfl, hlc, hN, hN2, u0, u1, u5⟩
  by_cases hw1 : 1300 < D.length
  · have z1 : decide ((1300 : Int) < (D.length : Int)) = true := decide_eq_true (by omega)
    repeat' (first | refine st ?_ | ((with_reducible apply r_drawL); (focus kernel_rfl); (focus kernel_rfl); (focus (exact sd1))) | ((with_reducible (first | apply r_any | apply r_cond)); focus (simp only [↓reduceIte, wantedA_eq, gBool_f, Bool.not_true, clsOf, clsCall, Fr.ev, evs, ofV, ofA, ofS, put_mk, pureOp, readOp, pBin, binA, intOp_gtr, pPick, List.getElem?_cons_zero, List.getElem?_cons_succ, Nat.reduceLT, Nat.reduceEqDiff, callTo_s, heavyCall, target, List.append_nil, binA, stepOp, stHeavy, stV_mk, stO_mk, stepAny, wantedA_none, rCall, rLen, Tget_set, lD, z1, k_live, k_cached] <;> rfl)))
    subst hQ
    refine ret_back (by simp only [Tryz.results3, resultOf, resultsA, resultA, List.toList_toArray, Fr.ev, Tget_set, ↓reduceIte] <;> rfl) ?_
    exact ⟨_, rfl⟩
  have z1 : decide ((1300 : Int) < (D.length : Int)) = false := decide_eq_false (by omega)
  by_cases hw2 : 20000 < N
  · have z2 : decide ((20000 : Int) < (N : Int)) = true := decide_eq_true (by omega)
    repeat' (first | refine st ?_ | ((with_reducible apply r_drawL); (focus kernel_rfl); (focus kernel_rfl); (focus (exact sd1))) | ((with_reducible (first | apply r_any | apply r_cond)); focus (simp only [↓reduceIte, clsOf, clsCall, Fr.ev, evs, ofV, ofA, ofS, put_mk, pureOp, readOp, pBin, binA, intOp_gtr, pPick, List.getElem?_cons_zero, Nat.reduceLT, Nat.reduceEqDiff, callTo_s, heavyCall, target, List.append_nil, binA, stepOp, stHeavy, stV_mk, stO_mk, stepAny, wantedA_none, rCall, rLen, Tget_set, lD, z1, z2, k_live, k_cached] <;> rfl)))
    subst hQ
    refine ret_back (by simp only [Tryz.results3, resultOf, resultsA, resultA, List.toList_toArray, Fr.ev, Tget_set, ↓reduceIte] <;> rfl) ?_
    exact ⟨_, rfl⟩
  have z2 : decide ((20000 : Int) < (N : Int)) = false := decide_eq_false (by omega)
  have hsz : ∀ d ∈ D, d.n ≤ 20000 := fun d hd => by
    have := smD_mem hd
    rw [hN, show min D.length 1301 = D.length by omega] at hw2
    omega
  repeat' (first | refine st ?_ | ((with_reducible (first | apply r_any | apply r_cond)); focus (simp only [↓reduceIte, clsOf, clsCall, Fr.ev, evs, ofV, ofA, ofS, put_mk, pureOp, readOp, pBin, binA, intOp_gtr, pPick, List.getElem?_cons_zero, Nat.reduceLT, Nat.reduceEqDiff, callTo_s, heavyCall, target, List.nil_append, List.append_nil, binA, stepOp, stHeavy, stV_mk, stepAny, wantedA_none, rCall, rLen, Tget_set, lD, z1, z2] <;> rfl)))
  refine r_callC (S := SL) (f := 6) (by first | rfl | (simp only [wantedA_none, Tget_set])) (by simp only [callOuts, callTo_s, target, evs, Fr.ev, Tget_set, ↓reduceIte, List.nil_append, List.append_nil]; exact kc_miss rfl) ?_ ?_
  · exact newAQ
  intro oo ho
  have ho1 : (1 ≤ m ∧ m ≤ 1024 ∧ oo = .val (.tup [.ptr (ky (F + 1) 10) 0, .int .i64 0]) ⟨hset h (ky (F + 1) 10) (mkRow [.int .i64 m, .nils, .int .i64 0, .int .i64 0] 0), F + 1 + 1⟩) ∨ (¬ (1 ≤ m ∧ m ≤ 1024) ∧ oo = .val (.tup [.nilp, .int .i64 2]) ⟨h, F + 1 + 1⟩) := ho
  clear ho
  have bn := fun (a : Int) => show (a != a) = false by simp
  rcases ho1 with ⟨hm1, hm2, ho⟩ | ⟨hm, rfl⟩
  rotate_left
  · refine ⟨_, by simp only [put_mk, Nat.reduceLT, ↓reduceIte] <;> rfl, ?_⟩
    repeat' (first | refine st ?_ | ((with_reducible (first | apply r_any | apply r_cond)); focus (simp only [↓reduceIte, clsOf, clsCall, Fr.ev, evs, put_mk, pureOp, List.getElem?_cons_zero, List.getElem?_cons_succ, Nat.reduceLT, Nat.reduceEqDiff, callTo_s, heavyCall, target, pEx, List.nil_append, List.append_nil, stepOp, stHeavy, stV_mk, stepAny, wantedA_none, Tget_set] <;> rfl)))
    refine r_callC (S := SL) (f := 7) (by first | rfl | (simp only [wantedA_none, Tget_set])) (by simp only [callOuts, callTo_s, target, evs, Fr.ev, Tget_set, ↓reduceIte, List.nil_append, List.append_nil]; exact kc_miss rfl) ?_ ?_
    · exact newBQ
    intro oo ho
    have ho1 : (1 ≤ m ∧ m ≤ 1024 ∧ _) ∨ (¬ (1 ≤ m ∧ m ≤ 1024) ∧ oo = .val (.tup [.nilp, .int .i64 2]) ⟨h, F + 1 + 1 + 1⟩) := ho
    clear ho
    rcases ho1 with ⟨h1, h2, _⟩ | ⟨_, rfl⟩
    · exact absurd ⟨h1, h2⟩ hm
    refine ⟨_, by simp only [put_mk, Nat.reduceLT, ↓reduceIte] <;> rfl, ?_⟩
    repeat' (first | refine st ?_ | ((with_reducible apply r_drawL); (focus kernel_rfl); (focus kernel_rfl); (focus (exact sd1))) | ((with_reducible (first | apply r_any | apply r_cond)); focus (simp only [↓reduceIte, Bool.not_true, clsOf, clsCall, Fr.ev, evs, ofV, ofA, ofS, put_mk, pureOp, pBin, binA, intOp_neq, pPick, List.getElem?_cons_zero, List.getElem?_cons_succ, Nat.reduceLT, Nat.reduceEqDiff, pUn_not, callTo_s, heavyCall, target, pEx, List.nil_append, List.append_nil, binA, eqIn, eqGuardOk, beq_self_eq_true, bne_self_eq_false, stepOp, stHeavy, stV_mk, stO_mk, Tryz.underlying4, Tryz.underlying39, Tryz.underlying43, stepAny, wantedA_none, Tget_set, k_num, k_live, k_cached] <;> rfl)))
    refine r_loop (I := fun nn fr s1 => ∃ lc tt, fr = ⟨F, lc, 253, tt, [], .no⟩ ∧ s1 = ⟨h, F + 1 + 1 + 1⟩ ∧ lc ≤ 100000000000000000000002000 ∧ nn = 0 ∧ tt.get 7 = some .nilp ∧ tt.get 11 = some (.int .i64 0)) (n := 0) ?_ ?_ ?_
    · omega
    · exact ⟨_, _, rfl, rfl, by omega, rfl, sd8, sd8⟩
    rintro nn fr s1 ⟨lc2, tt2, rfl, rfl, hlc2, _, u7, u11⟩
    repeat' (first | refine st ?_ | ((with_reducible apply r_drawL); (focus kernel_rfl); (focus kernel_rfl); (focus (exact sd1))) | ((with_reducible (first | apply r_any | apply r_cond)); focus (simp only [↓reduceIte, wantedA_eq, gBool_t, Bool.not_true, clsOf, Fr.ev, ofV, ofA, ofS, put_mk, pureOp, pBin, binA, pPick, List.getElem?_cons_zero, List.getElem?_cons_succ, Nat.reduceLT, Nat.reduceEqDiff, binA, eqIn, eqGuardOk, stepOp, stV_mk, Tryz.underlying39, stepAny, wantedA_none, Tget_set] <;> rfl)))
    subst hQ
    refine ret_back (by simp only [Tryz.results3, resultOf, resultsA, resultA, List.toList_toArray, Fr.ev, Tget_set, ↓reduceIte] <;> rfl) ?_
    exact ⟨_, rfl⟩
  obtain ⟨kc, ekc⟩ : ∃ k, k = ky (F + 1) 10 := ⟨_, rfl⟩
  rw [← ekc] at ho
  subst ho
  refine ⟨_, by simp only [put_mk, Nat.reduceLT, ↓reduceIte] <;> rfl, ?_⟩
  repeat' (first | refine st ?_ | ((with_reducible (first | apply r_any | apply r_cond)); focus (simp only [↓reduceIte, clsOf, clsCall, Fr.ev, evs, put_mk, pureOp, List.getElem?_cons_zero, List.getElem?_cons_succ, Nat.reduceLT, Nat.reduceEqDiff, callTo_s, heavyCall, target, pEx, List.nil_append, List.append_nil, stepOp, stHeavy, stV_mk, stepAny, wantedA_none, Tget_set] <;> rfl)))
  refine r_callC (S := SL) (f := 7) (by first | rfl | (simp only [wantedA_none, Tget_set])) (by simp only [callOuts, callTo_s, target, evs, Fr.ev, Tget_set, ↓reduceIte, List.nil_append, List.append_nil]; exact kc_miss rfl) ?_ ?_
  · exact newBQ
  intro oo ho
  have ho1 : (1 ≤ m ∧ m ≤ 1024 ∧ oo = .val (.tup [.ptr (ky (F + 1 + 1) 10) 0, .int .i64 0]) ⟨hset (hset h kc (mkRow [.int .i64 m, .nils, .int .i64 0, .int .i64 0] 0)) (ky (F + 1 + 1) 10) (mkRow [.int .i64 m, .nils, .int .i64 0, .int .i64 0] 0), F + 1 + 1 + 1⟩) ∨ (¬ (1 ≤ m ∧ m ≤ 1024) ∧ _) := ho
  clear ho
  rcases ho1 with ⟨_, _, ho⟩ | ⟨hm, _⟩
  rotate_left
  · exact absurd ⟨hm1, hm2⟩ hm
  obtain ⟨kw, ekw⟩ : ∃ k, k = ky (F + 1 + 1) 10 := ⟨_, rfl⟩
  rw [← ekw] at ho
  subst ho
  obtain ⟨most, rfl⟩ : ∃ n : Nat, m = (n : Int) := ⟨m.toNat, by omega⟩
  have hmost : most ≤ 1024 := by omega
  obtain ⟨h2, e2⟩ : ∃ h2, h2 = hset (hset h kc (mkRow [.int .i64 (most : Int), .nils, .int .i64 0, .int .i64 0] 0)) kw (mkRow [.int .i64 (most : Int), .nils, .int .i64 0, .int .i64 0] 0) := ⟨_, rfl⟩
  rw [← e2]
  have kc1 : ky (F + 1) 0 ≤ kc := by rw [ekc]; exact ky_le _ _
  have kc2 : kc < ky (F + 1 + 1) 0 := by rw [ekc]; exact ky_next _ _ (by decide)
  have kw1 : ky (F + 1 + 1) 0 ≤ kw := by rw [ekw]; exact ky_le _ _
  have kw2 : kw < ky (F + 1 + 1 + 1) 0 := by rw [ekw]; exact ky_next _ _ (by decide)
  have ecF : kc = ky (F + 1) 10 ∨ kc = ky (F + 2) 10 := .inl ekc
  have ewF : kw = ky (F + 1) 10 ∨ kw = ky (F + 2) 10 := .inr ekw
  have hkcw : kc ≠ kw := by omega
  have h0g : ky F 0 ≤ ky (F + 1) 0 := ky_mono (Nat.le_succ F)
  have gc0 : hget h2 kc = some (mkRow [.int .i64 (most : Int), .nils, .int .i64 0, .int .i64 0] 0) := by rw [e2, hget_hset, if_neg hkcw, hget_hset, if_pos rfl]
  have gw0 : hget h2 kw = some (mkRow [.int .i64 (most : Int), .nils, .int .i64 0, .int .i64 0] 0) := by rw [e2, hget_hset, if_pos rfl]
  have hlow2 : ∀ i, i < ky (F + 1) 0 → hget h2 i = hget h i := fun i hi => by rw [e2, hget_hset, if_neg (by have := ky_mono (Nat.le_succ (F + 1)); omega), hget_hset, if_neg (by omega)]
  obtain ⟨k0, ek0⟩ : ∃ k, k = ky (F + 1) 11 := ⟨_, rfl⟩
  obtain ⟨k1, ek1⟩ : ∃ k, k = ky (F + 1) 12 := ⟨_, rfl⟩
  have hk01 : ky (F + 1) 0 ≤ k0 ∧ k0 < ky (F + 1 + 1) 0 := by rw [ek0]; exact ⟨ky_le _ _, ky_next _ _ (by decide)⟩
  have hk11 : ky (F + 1) 0 ≤ k1 ∧ k1 < ky (F + 1 + 1) 0 := by rw [ek1]; exact ⟨ky_le _ _, ky_next _ _ (by decide)⟩
  have hkk01 : k0 ≠ k1 := by rw [ek0, ek1, Ne, ky_inj]; decide
  have hk0c : k0 ≠ kc := by rw [ek0, ekc, Ne, ky_inj]; decide
  have hk1c : k1 ≠ kc := by rw [ek1, ekc, Ne, ky_inj]; decide
  clear ek0 ek1
  refine ⟨_, by simp only [put_mk, Nat.reduceLT, ↓reduceIte] <;> rfl, ?_⟩
  repeat' (first | refine st ?_ | ((with_reducible apply r_drawL); (focus kernel_rfl); (focus kernel_rfl); (focus (exact sd1))) | ((with_reducible (first | apply r_any | apply r_cond)); focus (simp only [↓reduceIte, Bool.not_true, clsOf, clsCall, Fr.ev, evs, ofV, ofA, ofS, put_mk, pureOp, pBin, binA, intOp_neq, pPick, List.getElem?_cons_zero, List.getElem?_cons_succ, Nat.reduceLT, Nat.reduceEqDiff, pUn_not, callTo_s, heavyCall, target, pEx, List.nil_append, List.append_nil, binA, eqIn, eqGuardOk, beq_self_eq_true, bne_self_eq_false, stepOp, stHeavy, stV_mk, stO_mk, Tryz.underlying4, Tryz.underlying39, Tryz.underlying43, stepAny, wantedA_none, Tget_set, k_num, k_live, k_cached] <;> rfl)))
  refine r_loop (I := fun nn fr s1 => ∃ lc tt h1 g i k k2 y z L, fr = ⟨F, lc, 253, tt, [], .no⟩ ∧ s1 = ⟨h1, g⟩ ∧ i ≤ D.length ∧ nn = D.length - i ∧ lc + nn * 1000 ≤ 200000000000000000000000000 ∧ F + 3 ≤ g ∧ Low F h h1 ∧ CI F g h1 kc true most y z k k2 (fun _ _ => True) L ∧ CI F g h1 kw false most y z k2 k (fun _ _ => True) L ∧ (ky (F + 1) 0 ≤ k ∧ k < ky g 0 ∧ k ≠ kc ∧ k ≠ kw ∧ ky (F + 1) 0 ≤ k2 ∧ k2 < ky g 0 ∧ k2 ≠ kc ∧ k2 ≠ kw ∧ k ≠ k2) ∧ L.length ≤ most ∧ (∀ q ∈ L, smallP 20000 q) ∧ (0 ≤ y ∧ y ≤ i) ∧ (0 ≤ z ∧ z ≤ i) ∧ (∀ c, lc ≤ c → c ≤ 1267650600228229401496703205375 → hget h1 (ky F c) = none) ∧ tt.get 1 = some l ∧ tt.get 7 = some (.ptr kc 0) ∧ tt.get 9 = some (.ptr kw 0) ∧ tt.get 11 = some (.int .i64 (i : Int))) (n := D.length) ?_ ?_ ?_
  · omega
  · refine ⟨_, _, h2, _, 0, k0, k1, 0, 0, [], rfl, rfl, Nat.zero_le _, (Nat.sub_zero _).symm, by omega, Nat.le_refl _, fun i hi => hlow2 i (by omega), ⟨.nils, [], gc0, .inl ⟨rfl, rfl⟩, Kept.nil⟩, ⟨.nils, [], gw0, .inl ⟨rfl, rfl⟩, Kept.nil⟩, ?_, Nat.zero_le _, fun q hq => by simp at hq, by omega, by omega, fun c hc hc2 => ?_, sd8, sd8, sd8, sd8⟩
    · have : ky (F + 1 + 1) 0 ≤ ky (F + 1 + 1 + 1) 0 := ky_mono (Nat.le_succ _)
      exact ⟨hk01.1, by omega, hk0c, by omega, hk11.1, by omega, hk1c, by omega, hkk01⟩
    · rw [hlow2 _ (ky_next F c hc2)]; exact hcl _ (ky_le F c)
  rintro nn fr s1 ⟨lc2, tt2, h1, g, i, k, k2, y, z, L, rfl, rfl, hi, rfl, hlc2, hg, hlow, cA, cB, ⟨ka1, ka2, ka3, ka4, kb1, kb2, kb3, kb4, kab⟩, hLm, hsL, hy, hz, hclean, u1, u7, u9, u11⟩
  by_cases hil : i < D.length
  rotate_left
  · repeat' (first | refine st ?_ | ((with_reducible apply r_drawL); (focus kernel_rfl); (focus kernel_rfl); (focus (exact sd1))) | ((with_reducible (first | apply r_any | apply r_cond)); focus (simp only [↓reduceIte, Bool.not_false, clsOf, clsCall, Fr.ev, ofV, ofA, ofS, put_mk, pureOp, readOp, pBin, binA, intOp_lss, pPick, List.getElem?_cons_zero, Nat.reduceLT, Nat.reduceEqDiff, binA, eqIn, eqGuardOk, stepOp, stV_mk, Tryz.underlying39, stepAny, wantedA_none, rCall, rLen, Tget_set, lD, lt_f hil] <;> rfl)))
    subst hQ
    refine ret_back (by simp only [Tryz.results3, resultOf, resultsA, resultA, List.toList_toArray, Fr.ev, Tget_set, ↓reduceIte] <;> rfl) ?_
    exact ⟨_, rfl⟩
  obtain ⟨b, o, eo, cap, d, a, r, w, i9, ra, wv, el, hbk, hd, rd0, hp, hok, q1, q2, q3, q4, q5, q6⟩ := did_at hw hD hil
  subst el
  have hdn := hsz d (List.mem_of_getElem? hd)
  unfold DV.n at hdn
  have hb1 : hget h1 b = hget h b := hlow b hbk
  have qk : rdAB (hget h1 b) (o + i * 14) 1 = some [.int .i64 d.kind] := by rw [hb1]; exact hp 0 1 (by decide)
  have qp : rdAB (hget h1 b) (o + i * 14 + 1) 8 = some [.int .i64 d.ps.cl, .int .u64 d.ps.tok, .str d.ps.nm, a, .int .i64 d.ps.how, r, w, i9] := by rw [hb1]; exact hp 1 8 (by decide)
  have qr : rdAB (hget h1 b) (o + i * 14 + 9) 4 = some [.int .i64 d.rc, .int .u64 d.rt, .str d.rn, ra] := by rw [hb1]; exact hp 9 4 (by decide)
  have qw : rdAB (hget h1 b) (o + i * 14 + 13) 1 = some [wv] := by rw [hb1]; exact hp 13 1 (by decide)
  have hS1 : SameH h h1 := hlow.same hw
  have pI := pIA_s (P := Tryz.prog) (id := b) (off := o) (eo := eo) (cap := cap) Tryz.underlying22 sz37 hil
  have hgF : ky (F + 1) 0 ≤ ky g 0 := ky_mono (by omega)
  have hg3 : ky (F + 1 + 1 + 1) 0 ≤ ky g 0 := ky_mono (by omega)
  have kcg : kc < ky g 0 := by have := ky_mono (Nat.le_succ (F + 1 + 1)); omega
  have kwg : kw < ky g 0 := by omega
  repeat' (first | refine st ?_ | ((with_reducible apply r_drawL); (focus kernel_rfl); (focus kernel_rfl); (focus (exact sd1))) | ((with_reducible (first | apply r_any | apply r_cond)); focus (simp only [↓reduceIte, Bool.not_false, clsOf, clsCall, Fr.ev, ofV, ofA, ofS, put_mk, pureOp, readOp, pFA, pFA1, pFA2, rLd, pBin, binA, intOp_lss, pPick, List.getElem?_cons_zero, Nat.add_zero, Nat.reduceLT, Nat.reduceEqDiff, Nat.add_eq, loadA_w, loadW_s, binA, eqIn, eqGuardOk, stepOp, stV_mk, sz3, ag3, Tryz.underlying37, Tryz.underlying39, stepAny, wantedA_none, rCall, rLen, Tget_set, lD, lt_t hil, pI] <;> rfl)))
  repeat' (first | with_reducible (first | refine r_seq ?_ | refine r_next ?_ | refine r_seq_exit ?_ | refine r_seq_ret ?_ | refine r_blk_n ?_ | refine r_blk_ret ?_ | refine r_blk_hit ?_ | refine r_blk_miss rfl ?_ | refine r_skip ?_ | refine r_exit ?_ | refine r_ret ?_ | refine r_rq_exit ?_ | refine r_rq_ret ?_) | ((with_reducible apply r_regA); (focus (exact sd2)); (focus (exact sd1))) | ((with_reducible refine r_reg (List.toList_toArray) ?_ ?_); focus (exact sd1)) | ((with_reducible apply r_end); focus (exact sd4)) | ((with_reducible (first | apply r_move | apply r_assign)); (focus (simp only [Tget_set, T.get_n, T.get_e, Nat.reduceEqDiff, Nat.reduceDiv, Nat.reduceMod, Nat.reduceSub, ↓reduceIte, if_true, if_false, u1, u7, u9, u11] <;> rfl)); (focus (exact sd7))) | ((with_reducible apply r_condT); (focus (simp only [Tget_set, T.get_n, T.get_e, Nat.reduceEqDiff, Nat.reduceDiv, Nat.reduceMod, Nat.reduceSub, ↓reduceIte, if_true, if_false, u1, u7, u9, u11] <;> rfl))) | ((with_reducible apply r_gT); (focus (exact sd5)); (focus rfl); (focus (exact sd3))) | ((with_reducible (first | apply r_any | apply r_cond)); focus (simp only [↓reduceIte, clsOf, Fr.ev, put_mk, readOp, rLd, oneCell_one, Nat.reduceLT, loadA_w, loadW_s, stepOp, stV_mk, sz3, ag3, stepAny, wantedA_none, Tget_set, qk] <;> rfl)) | (with_reducible rw [ifQ_t]) | (with_reducible rw [ifQ_f]))
  refine cutN (R := fun fr s1 => ∃ lc tt h9 g9 k k2 y z L, fr = ⟨F, lc, 253, tt, [], .no⟩ ∧ s1 = ⟨h9, g9⟩ ∧ lc2 ≤ lc ∧ lc ≤ lc2 + 500 ∧ F + 3 ≤ g9 ∧ Low F h h9 ∧ CI F g9 h9 kc true most y z k k2 (fun _ _ => True) L ∧ CI F g9 h9 kw false most y z k2 k (fun _ _ => True) L ∧ (ky (F + 1) 0 ≤ k ∧ k < ky g9 0 ∧ k ≠ kc ∧ k ≠ kw ∧ ky (F + 1) 0 ≤ k2 ∧ k2 < ky g9 0 ∧ k2 ≠ kc ∧ k2 ≠ kw ∧ k ≠ k2) ∧ L.length ≤ most ∧ (∀ q ∈ L, smallP 20000 q) ∧ (0 ≤ y ∧ y ≤ i + 1) ∧ (0 ≤ z ∧ z ≤ i + 1) ∧ (∀ c, lc ≤ c → c ≤ 1267650600228229401496703205375 → hget h9 (ky F c) = none) ∧ tt.get 1 = some (.slice b o eo D.length cap) ∧ tt.get 7 = some (.ptr kc 0) ∧ tt.get 9 = some (.ptr kw 0) ∧ tt.get 11 = some (.int .i64 (i : Int))) ?_ ?_
  rotate_left
  · rintro fr s1 ⟨lc3, tt3, h9, g9, k8, k9, y9, z9, L9, rfl, rfl, hlcA, hlcB, hg9, hlow9, cA9, cB9, hKI, hLm9, hsL9, hy9, hz9, hclean9, v1, v7, v9, v11⟩
    obtain ⟨lA, XA, gA, sA, kpA⟩ := id cA9
    obtain ⟨lB, XB, gB, sB, kpB⟩ := id cB9
    have hg93 : ky (F + 1 + 1 + 1) 0 ≤ ky g9 0 := ky_mono (by omega)
    have kcg9 : kc < ky g9 0 := by have := ky_mono (Nat.le_succ (F + 1 + 1)); omega
    have kwg9 : kw < ky g9 0 := by omega
    have kwo := fun (a : Nat) => ky_old (a := a) kwg9
    have hXA : XA.length = L9.length := kpA.1
    have hXB : XB.length = L9.length := kpB.1
    have hlXA : LstP h9 ksP lA XA := sA.lst kpA.ok (by omega)
    have hlXB : LstP h9 ksP lB XB := sB.lst kpB.ok (by omega)
    have kh := k_hits (S := SL) (F := g9) (k := kc) kcg9 gA
    have kl := k_len (S := SL) (F := g9) (k := kc) kcg9 gA hlXA
    have lenB := fun (h3 : Heap) => rLen1_L (h2 := h3) Tryz.underlying58 hlXB
    rw [hXA] at kl
    rw [hXB] at lenB
    have slB := av_self_L hlXB
    have ad := intOp_add (P := Tryz.prog) (t := 3) (inR_succ hil hDl)
    repeat' (first | refine st ?_ | ((with_reducible apply (r_drawW (id := 32) (js := [0, 2, 3, 4, 5, 6, 1, 7, 8, 9, 10, 11, 12, 13, 14, 15, 16, 17, 18, 19, 20, 21, 22, 23]))); (focus kernel_rfl); (focus kernel_rfl); (focus (exact sd1))) | ((with_reducible apply d_end); (focus (simp only [List.length_cons, List.length_nil, Nat.add_assoc, Nat.reduceAdd, Nat.zero_add] <;> rfl))) | ((with_reducible apply d_any); (focus rfl); (iterate 2 (focus (simp only [↓reduceIte, wantedA_eq, gBool_f, Bool.not_false, clsOf, clsCall, Fr.ev, evs, put_mk, pureOp, readOp, pFA, pFA1, pFA2, rLd, rdAB_row, oneCell_one, pBin, binA, intOp_neq, pPick, List.length_cons, List.length_nil, List.getElem?_cons_zero, List.getElem?_cons_succ, List.drop_zero, List.drop_succ_cons, List.take_succ_cons, List.take_zero, Nat.zero_add, Nat.reduceAdd, Nat.reduceLT, Nat.reduceLeDiff, Nat.reduceEqDiff, Nat.add_eq, loadA_w, loadW_s, callTo_s, heavyCall, target, List.nil_append, List.append_nil, pNil, binA, bne_self_eq_false, stepOp, stHeavy, stV_mk, stO_mk, sz3, ag3, sz58, ag58, Tryz.underlying60, stepAny, wantedA_none, readSelf, av_int, rCall, rLen, Tget_set, v7, v9, kl, gB, lenB, slB] <;> rfl))); (focus (first | exact SameH.refl _ | (simp only [sameT, sameS hw]; done)))) | ((with_reducible apply r_drawL); (focus kernel_rfl); (focus kernel_rfl); (focus (exact sd1))) | ((with_reducible (first | apply r_any | apply r_cond)); focus (simp only [↓reduceIte, clsOf, clsCall, Fr.ev, evs, ofV, ofA, ofS, put_mk, pureOp, pBin, binA, List.getElem?_cons_zero, List.getElem?_cons_succ, Nat.reduceLT, Nat.reduceEqDiff, callTo_s, heavyCall, target, pEx, List.nil_append, List.append_nil, binA, stepOp, stHeavy, stV_mk, stO_mk, stepAny, wantedA_none, Tget_set, kh, ad] <;> rfl)))
    exact r_rq_n (k := D.length - (i + 1)) (by omega) ⟨_, _, h9, g9, i + 1, k8, k9, y9, z9, L9, rfl, rfl, by omega, rfl, by omega, hg9, hlow9, cA9, cB9, hKI, hLm9, hsL9, by omega, by omega, fun c hc => hclean9 c (by omega), sd8, sd8, sd8, sd8⟩
  by_cases k1' : d.kind = 1
  · have e1 : (d.kind == 1) = true := by rw [k1']; rfl
    obtain ⟨okP, _, _, _⟩ := did_ok hok
    have hPI : PasI 0 F h [.int .i64 d.ps.cl, .int .u64 d.ps.tok, .str d.ps.nm, a, .int .i64 d.ps.how, r, w, i9] d.ps := ⟨okP, a, r, w, i9, rfl, q1.below hw (by decide), q2.below hw (by decide), q3.below hw (by decide), q4.below hw (by decide)⟩
    have hPP : PasP h [.int .i64 d.ps.cl, .int .u64 d.ps.tok, .str d.ps.nm, a, .int .i64 d.ps.how, r, w, i9] d.ps := PasI.p hPI
    have hsm : smallP 100000 d.ps := ⟨by omega, by omega, by omega, by omega⟩
    have iA := isCell_L q1
    have iR := isCell_L q2
    have iW := isCell_L q3
    have iI := isCell_L q4
    have sA := av_self_L q1
    have sR := av_self_L q2
    have sW := av_self_L q3
    have sI := av_self_L q4
    repeat' (first | refine st ?_ | ((with_reducible apply r_drawL); (focus kernel_rfl); (focus kernel_rfl); (focus (exact sd1))) | ((with_reducible (first | apply r_any | apply r_cond)); focus (simp only [↓reduceIte, clsOf, clsCall, Fr.ev, evs, ofV, ofA, ofS, put_mk, pureOp, readOp, pFA, pFA1, pFA2, rLd, someAgg_s, pBin, binA, intOp_eql, List.getElem?_cons_zero, List.getElem?_cons_succ, Nat.reduceLT, Nat.reduceEqDiff, Nat.add_eq, loadA_w, loadW_a, callTo_s, heavyCall, target, List.nil_append, List.append_nil, binA, stepOp, stHeavy, stV_mk, sz34, ag34, Tryz.underlying37, stepAny, wantedA_none, Tget_set, e1, pI, qp] <;> rfl)))
    refine r_callC (S := SL) (f := 9) (by first | rfl | (simp only [wantedA_none, Tget_set])) (by simp only [callOuts, callTo_s, target, evs, Fr.ev, Tget_set, ↓reduceIte, List.nil_append, List.append_nil]; exact kc_miss rfl) ?_ ?_
    · exact passLQ (hPP.same hS1) hsm
    intro oo ho
    obtain ⟨x1, h3, rfl, hx3, low3, hs3, wx3⟩ := ho d.ps (hPP.same hS1) hsm
    have hx3 : PasI g (g + 1 + 1) h3 x1 d.ps := hx3
    have l3 : Low g h1 h3 := low3
    obtain ⟨ok1, a1, r1, w1, i1, rfl, hA1, hR1, hW1, hI1⟩ := id hx3
    have iA1 := isCell_L hA1.p
    have iR1 := isCell_L hR1.p
    have iW1 := isCell_L hW1.p
    have iI1 := isCell_L hI1.p
    have sA1 := av_self_L hA1.p
    have sR1 := av_self_L hR1.p
    have sW1 := av_self_L hW1.p
    have sI1 := av_self_L hI1.p
    refine ⟨_, by simp only [put_mk, Nat.reduceLT, ↓reduceIte] <;> rfl, ?_⟩
    repeat' (first | refine st ?_ | ((with_reducible apply r_drawL); (focus kernel_rfl); (focus kernel_rfl); (focus (exact sd1))) | ((with_reducible (first | apply r_any | apply r_cond)); focus (simp only [↓reduceIte, clsOf, clsCall, newBlk, allocOp, Fr.ev, evs, nVar, AV.cells, rowOf_mk, put_mk, put_none, upd_mk, keyOf_mk, readOp, rLd, rdAB_row, someAgg_s, hget_same, List.length_cons, List.length_nil, List.drop_zero, List.take_succ_cons, List.take_zero, Nat.zero_add, Nat.reduceAdd, Nat.reduceLT, Nat.reduceLeDiff, Nat.reduceEqDiff, and_self, loadA_w, loadW_a, aSt_w, stOut_s, wrAB_row, ovr, List.set_cons_zero, List.set_cons_succ, allCell, ic_i, ic_s, callTo_s, heavyCall, target, actOp, List.nil_append, List.append_nil, stepOp, stHeavy, stV_mk, stB_mk, stO_mk, sz34, ag34, zr34, tg34, stepAny, wantedA_none, Tget_set, iA1, iR1, iW1, iI1] <;> rfl)))
    obtain ⟨h4, e4⟩ : ∃ h4, h4 = hset (hset h3 (ky F (lc2 + 15 + 6)) (mkRow [.int .i64 0, .int .u64 0, .str [], .nils, .int .i64 0, .nils, .nils, .nils] 0)) (ky F (lc2 + 15 + 6)) (mkRow [.int .i64 d.ps.cl, .int .u64 d.ps.tok, .str d.ps.nm, a1, .int .i64 d.ps.how, r1, w1, i1] 0) := ⟨_, rfl⟩
    rw [← e4]
    have hlcb : lc2 + 15 + 6 ≤ 1267650600228229401496703205375 := by omega
    have hKg : ky F (lc2 + 15 + 6) < ky (F + 1) 0 := ky_next F _ hlcb
    have E4 : EqI (F + 1) g h1 h4 := by rw [e4]; exact (((EqI.refl _ _ h1).call l3 (Nat.le_refl g)).set (.inl (Nat.lt_succ_self F)) hlcb).set (.inl (Nat.lt_succ_self F)) hlcb
    have b4 : hget h4 (ky F (lc2 + 15 + 6)) = some (mkRow [.int .i64 d.ps.cl, .int .u64 d.ps.tok, .str d.ps.nm, a1, .int .i64 d.ps.how, r1, w1, i1] 0) := by rw [e4, hget_hset, if_pos rfl]
    have hg22 : ky g 0 ≤ ky (g + 1 + 1) 0 := ky_mono (by omega)
    have cA4 := (cA.weak (E' := fun A B => B ≤ g ∨ g + 1 + 1 ≤ A) (fun A B hB _ => .inl hB)).eq E4 ⟨kc1, kcg⟩ ⟨ka1, ka2⟩ (show g ≤ g + 1 + 1 by omega)
    have cB4 := (cB.weak (E' := fun A B => B ≤ g ∨ g + 1 + 1 ≤ A) (fun A B hB _ => .inl hB)).eq E4 ⟨by omega, kwg⟩ ⟨kb1, kb2⟩ (show g ≤ g + 1 + 1 by omega)
    obtain ⟨lA, XA, gA, sA4, kpA⟩ := id cA4
    have hx4 : PasI g (g + 1 + 1) h4 [.int .i64 d.ps.cl, .int .u64 d.ps.tok, .str d.ps.nm, a1, .int .i64 d.ps.how, r1, w1, i1] d.ps := by rw [e4]; exact hx3.move (((EqI.refl _ _ h3).set (.inl (by omega)) hlcb).set (.inl (by omega)) hlcb)
    have wx4 : WrX h4 [.int .i64 d.ps.cl, .int .u64 d.ps.tok, .str d.ps.nm, a1, .int .i64 d.ps.how, r1, w1, i1] := by rw [e4]; exact wrx_move wx3 hx3 (((EqI.refl _ _ h3).set (.inl (by omega)) hlcb).set (.inl (by omega)) hlcb)
    have hlow4 : Low F h h4 := by rw [e4]; exact ((hlow.trans (l3.down (by omega))).set (Nat.le_refl F)).set (Nat.le_refl F)
    have kcg2 : kc < ky (g + 1 + 1) 0 := by omega
    have kwg2 : kw < ky (g + 1 + 1) 0 := by omega
    have kag2 : k < ky (g + 1 + 1) 0 := by omega
    have kbg2 : k2 < ky (g + 1 + 1) 0 := by omega
    refine r_callC (S := SL) (f := 10) (by first | rfl | (simp only [wantedA_none, Tget_set])) (by simp only [callOuts, callTo_s, target, evs, Fr.ev, Tget_set, Nat.reduceEqDiff, ↓reduceIte, List.nil_append, List.append_nil]; exact kc_miss rfl) ?_ ?_
    · exact putAQ kcg2 kag2 (Ne.symm ka3) gA sA4 kpA (Nat.le_refl _) hx4 (.inl ka2) (.inl kcg) (Nat.le_refl _) hsm hLm hmost
    intro oo ho
    obtain ⟨l5, h5, k5, x5, A5, F5, rfl, hA5, hF5, gA5, sA5, hk5, hx5, hF5', hun5⟩ := ho most lA _ _ XA L d.ps gA ⟨_, _, sA4⟩ ⟨_, _, kpA⟩ (PasI.p hx4)
    have hA5 : g + 1 + 1 + 1 ≤ A5 := hA5
    obtain ⟨vb, hvb⟩ : ∃ v, v = dec (fndP d.ps.nm d.ps.args L ≠ none) := ⟨_, rfl⟩
    rw [← hvb]
    have bv : (vb != vb) = false := by cases vb <;> rfl
    obtain ⟨cA5, hk5a, hk5b, lw5⟩ := CI.put (g := g + 1 + 1) gA sA4 kpA ecF (by decide) kag2 kbg2 (by omega) (show g + 1 + 1 + 1 ≤ A5 + 1 by omega) hF5' gA5 sA5 hk5 hx5 hun5 (show g + 1 + 1 ≤ F5 by omega) (.inr (by omega))
    have hgF5 : ky (g + 1 + 1) 0 ≤ ky F5 0 := ky_mono (by omega)
    have cB5 := ((cB4.low2 lw5 ⟨Ne.symm hkcw, Ne.symm ka4, kwg2⟩ ⟨kb3, Ne.symm kab, kbg2⟩ ecF (by decide) (.inl rfl) (Nat.le_refl _)).other hk5a).up (show g + 1 + 1 ≤ F5 by omega)
    have ho5 : ky (F + 1) 0 ≤ ky g 0 := hgF
    have hlow5 : Low F h h5 := hlow4.trans (lw5.low (by omega) (by omega) (by omega))
    have hb5 : hget h5 (ky F (lc2 + 15 + 6)) = some (mkRow [.int .i64 d.ps.cl, .int .u64 d.ps.tok, .str d.ps.nm, a1, .int .i64 d.ps.how, r1, w1, i1] 0) := (lw5 _ (by omega) (by omega) (by omega)).trans b4
    have hx15 : PasI g (g + 1 + 1) h5 [.int .i64 d.ps.cl, .int .u64 d.ps.tok, .str d.ps.nm, a1, .int .i64 d.ps.how, r1, w1, i1] d.ps := hx4.move (lw5.eqI (.inl kcg) (.inl ka2) (Nat.le_refl _))
    have wx5 : WrX h5 [.int .i64 d.ps.cl, .int .u64 d.ps.tok, .str d.ps.nm, a1, .int .i64 d.ps.how, r1, w1, i1] := wrx_move wx4 hx4 (lw5.eqI (.inl kcg) (.inl ka2) (Nat.le_refl _))
    have qp5 : rdAB (hget h5 b) (o + i * 14 + 1) 8 = some [.int .i64 d.ps.cl, .int .u64 d.ps.tok, .str d.ps.nm, a, .int .i64 d.ps.how, r, w, i9] := by rw [hlow5 b hbk]; exact hp 1 8 (by decide)
    have hPI5 : PasI 0 F h5 [.int .i64 d.ps.cl, .int .u64 d.ps.tok, .str d.ps.nm, a, .int .i64 d.ps.how, r, w, i9] d.ps := hPI.low hlow5 (Nat.le_refl F)
    obtain ⟨lB, XB, gB, sB5, kpB⟩ := id cB5
    refine ⟨_, by simp only [put_mk, Nat.reduceLT, ↓reduceIte] <;> rfl, ?_⟩
    repeat' (first | refine st ?_ | ((with_reducible apply (r_drawG (id := 19) (js := [(0, 0), (1, 0), (2, 0), (3, 0), (4, 12), (5, 28), (6, 60), (7, 126), (8, 255), (9, 511), (10, 1023), (11, 1023), (12, 1023), (13, 7167), (14, 15359), (15, 31743), (16, 65535), (17, 131071), (18, 262143)]))); (focus kernel_rfl); (focus kernel_rfl); (focus (exact sd1))) | ((with_reducible apply g_undef); (focus rfl); (focus (simp only [wantedA_none] <;> rfl)); (focus (exact sd6))) | ((with_reducible apply g_pure); (focus rfl); (focus rfl); (focus (first | (simp only [wantedA_none] <;> rfl) | rfl)); (focus (simp only [↓reduceIte, Fr.ev, pureOp, pFA, pFA1, pFA2, List.getElem?_cons_zero, List.getElem?_cons_succ, Nat.reduceEqDiff, Nat.add_eq, sz34, Tryz.underlying37, Tget_set, u1, u9, u11, pI] <;> rfl)); (focus (exact sd6))) | ((with_reducible apply g_read); (focus rfl); (focus rfl); (focus (first | (simp only [wantedA_none] <;> rfl) | rfl)); (focus (simp only [↓reduceIte, Fr.ev, readOp, rLd, someAgg_s, loadA_w, loadW_a, sz34, ag34, Tget_set, addMade_nil, qp5] <;> rfl)); (focus (exact sd6))))
    refine g_callC (S := SL) (f := 11) (s0 := ⟨h5, F5⟩) (by rfl) (by first | rfl | (simp only [wantedA_none, Tget_set])) (by first | rfl | (simp only [withH_mk, ky_inj, Nat.testBit_eq_decide_div_mod_eq, Nat.reducePow, addMade_nil, addMade_cons, mad1_t, mad1_o, mad1_f, addAll_nil, addAll_cons, readsLeft_nil, readsLeft_cons, rdl1_t, rdl1_f, readsOk_nil, readsOk_cons, rok1_s, asideOk_nil, asideOk_cons, asd1_n, asd1_s, av_str, av_int, av_bool, av_ptr, av_sl, av_nils, av_nili, av_agg, av_if, avs_nil, avs_cons, Bool.and_self, u1, u7, u9, u11, pI, hb5, qp5, ky_old hbk, iA, iR, iW, iI]; done) | (simp only [withH_mk, ky_inj, Nat.testBit_eq_decide_div_mod_eq, Nat.reducePow, addMade_nil, addMade_cons, mad1_t, mad1_o, mad1_f, addAll_nil, addAll_cons, readsLeft_nil, readsLeft_cons, rdl1_t, rdl1_f, readsOk_nil, readsOk_cons, rok1_s, asideOk_nil, asideOk_cons, asd1_n, asd1_s, av_str, av_int, av_bool, av_ptr, av_sl, av_nils, av_nili, av_agg, av_if, avs_nil, avs_cons, Bool.and_self, u1, u7, u9, u11, pI, hb5, qp5, ky_old hbk, iA, iR, iW, iI] <;> rfl)) (by simp only [callOuts, callTo_s, target, evs, Fr.ev, Tget_set, Nat.reduceEqDiff, ↓reduceIte, List.nil_append, List.append_nil]; exact kc_miss rfl) ?_ ?_
    · exact putBQ (show kw < ky F5 0 by omega) (show k2 < ky F5 0 by omega) (Ne.symm kb4) gB sB5 kpB (Nat.le_refl _) hPI5 (.inr (by omega)) (by omega) hsm hLm hmost
    intro oo ho
    obtain ⟨l6, h6, k6, x6, A6, F6, rfl, hA6, hF6, gB6, sB6, hk6, hx6, hF6', hun6⟩ := ho most lB _ _ XB L d.ps gB ⟨_, _, sB5⟩ ⟨_, _, kpB⟩ (PasI.p hPI5)
    have hA6 : F5 + 1 ≤ A6 := hA6
    rw [← hvb]
    obtain ⟨cB6, hk6a, hk6b, lw6⟩ := CI.put (g := F5) gB sB5 kpB ewF (by decide) (by omega) hk5b (by omega) (show F5 + 1 ≤ A6 by omega) hF6' gB6 sB6 hk6 hx6 hun6 (show F5 ≤ F6 by omega) (.inr (by omega))
    have hgF6 : ky F5 0 ≤ ky F6 0 := ky_mono (by omega)
    have k5w : k5 ≠ kw := by rcases hk5a with rfl | h <;> omega
    have k5c : k5 ≠ kc := by rcases hk5a with rfl | h <;> omega
    have k52 : k5 ≠ k2 := by rcases hk5a with rfl | h <;> omega
    have cA6 := ((cA5.low2 lw6 ⟨hkcw, Ne.symm kb3, by omega⟩ ⟨k5w, k52, hk5b⟩ ewF (by decide) (.inl rfl) (Nat.le_refl _)).other hk6a).up (show F5 ≤ F6 by omega)
    have hlow6 : Low F h h6 := hlow5.trans (lw6.low (by omega) (by omega) (by omega))
    have hb6 : hget h6 (ky F (lc2 + 15 + 6)) = some (mkRow [.int .i64 d.ps.cl, .int .u64 d.ps.tok, .str d.ps.nm, a1, .int .i64 d.ps.how, r1, w1, i1] 0) := (lw6 _ (by omega) (by omega) (by omega)).trans hb5
    have hO1 : OutK kw g (g + 1 + 1) := .inl kwg
    have hO2 : OutK k2 g (g + 1 + 1) := .inl kb2
    have hx16 : PasI g (g + 1 + 1) h6 [.int .i64 d.ps.cl, .int .u64 d.ps.tok, .str d.ps.nm, a1, .int .i64 d.ps.how, r1, w1, i1] d.ps := hx15.move (lw6.eqI hO1 hO2 (by omega))
    have wx6 : WrX h6 [.int .i64 d.ps.cl, .int .u64 d.ps.tok, .str d.ps.nm, a1, .int .i64 d.ps.how, r1, w1, i1] := wrx_move wx5 hx15 (lw6.eqI hO1 hO2 (by omega))
    have qp6 : rdAB (hget h6 b) (o + i * 14 + 1) 8 = some [.int .i64 d.ps.cl, .int .u64 d.ps.tok, .str d.ps.nm, a, .int .i64 d.ps.how, r, w, i9] := by rw [hlow6 b hbk]; exact hp 1 8 (by decide)
    have kE := k_equal (S := SL) (F := F6) (PasI.p hx16) (PasI.p (hPI.low hlow6 (Nat.le_refl F))) (by omega) (SameH.refl h6)
    refine ⟨_, by simp only [put_mk, Nat.reduceLT, ↓reduceIte] <;> rfl, ?_, ?_, ?_⟩
    · first | rfl | (simp only [↓reduceIte, wantedA_eq, gBool_t, gBool_f, Bool.not_true, Bool.not_false, Bool.not_not, clsOf, clsCall, newBlk, allocOp, ev_tmp, Fr.ev, evs, evParts, ofV, ofA, ofS, ofSs, ofAs, nVar, AV.cells, rowOf_mk, rowT_mk, mkRowT_0, put_mk, put_none, upd_mk, withH_mk, keyOf_mk, ky_inj, pureOp, readOp, T.get_e, pFA, pFA1, pFA2, rLd, rdAB_row, oneCell_one, someAgg_s, hget_same, hget_hset_ite, pBin, binA, intOp_eql, intOp_neq, intOp_lss, intOp_leq, intOp_gtr, intOp_geq, pPick, List.length_cons, List.length_nil, List.getElem?_cons_zero, List.getElem?_cons_succ, List.drop_zero, List.drop_succ_cons, List.take_succ_cons, List.take_zero, Nat.zero_add, Nat.add_zero, Nat.reduceAdd, Nat.reduceLT, Nat.reduceLeDiff, Nat.reduceEqDiff, Nat.reduceMul, Nat.reduceSub, Nat.succ_eq_add_one, if_true, if_false, true_and, and_true, and_self, List.toList_toArray, Nat.add_eq, Nat.mul_eq, Nat.sub_eq, loadA_w, loadW_a, loadW_s, aSt_w, stOut_s, wrAB_row, ovr, List.set_cons_zero, List.set_cons_succ, allCell, ic_b, ic_i, ic_s, ic_np, ic_p, ic_g, ic_ns, ic_h, ic_sl, ic_nm, ic_m, ic_nf, ic_f, ic_ni, ic_if, pUn_not, callTo_s, heavyCall, target, actOp, pEx, List.nil_append, List.append_nil, pNil, pBuild, pBuild2, fieldsOk, buildParts, List.getElem?_nil, pMkF, binA, eqIn, eqGuardOk, pF, pF1, partA, beq_self_eq_true, bne_self_eq_false, decide_true, decide_false, Int.reduceBEq, Int.reduceBNe, Int.reduceLT, Int.reduceLE, Int.reduceEq, Int.reduceNeg, Int.reduceAdd, Int.reduceSub, Bool.and_true, Bool.true_and, Bool.and_false, Bool.false_and, stepOp, stHeavy, stV_mk, stB_mk, stO_mk, T.get_n, T.set_n, T.set_e, Nat.reduceDiv, Nat.reduceMod, ofNat_z, sz2, ag2, zr2, tg2, Tryz.underlying2, sz3, ag3, zr3, tg3, Tryz.underlying3, sz4, ag4, zr4, tg4, Tryz.underlying4, sz9, ag9, zr9, tg9, Tryz.underlying9, sz22, ag22, zr22, tg22, Tryz.underlying22, sz23, ag23, zr23, tg23, Tryz.underlying23, sz24, ag24, zr24, tg24, Tryz.underlying24, sz26, ag26, zr26, tg26, Tryz.underlying26, sz27, ag27, zr27, tg27, Tryz.underlying27, sz29, ag29, zr29, tg29, Tryz.underlying29, sz31, ag31, zr31, tg31, Tryz.underlying31, sz32, ag32, zr32, tg32, Tryz.underlying32, sz34, ag34, zr34, tg34, Tryz.underlying34, sz35, ag35, zr35, tg35, Tryz.underlying35, sz37, ag37, zr37, tg37, Tryz.underlying37, sz39, ag39, zr39, tg39, Tryz.underlying39, sz40, ag40, zr40, tg40, Tryz.underlying40, sz43, ag43, zr43, tg43, Tryz.underlying43, sz58, ag58, zr58, tg58, Tryz.underlying58, sz60, ag60, zr60, tg60, Tryz.underlying60, sz64, ag64, zr64, tg64, Tryz.underlying64, sz66, ag66, zr66, tg66, Tryz.underlying66, sz68, ag68, zr68, tg68, Tryz.underlying68, stepAny, wantedA_none, rCall, rLen, rLen1_str, rLen1_sl, lenA, Tget_set, natOf_c, Nat.left_eq_add, Nat.add_eq_left, Nat.testBit_eq_decide_div_mod_eq, Nat.reducePow, addMade_nil, addMade_cons, mad1_t, mad1_o, mad1_f, addAll_nil, addAll_cons, readsLeft_nil, readsLeft_cons, rdl1_t, rdl1_f, readsOk_nil, readsOk_cons, rok1_s, asideOk_nil, asideOk_cons, asd1_n, asd1_s, av_str, av_int, av_bool, av_ptr, av_sl, av_nils, av_nili, av_agg, av_if, avs_nil, avs_cons, Bool.and_self, av_self_slice, sA, sR, sW, sI, sA1, sR1, sW1, sI1, u1, u7, u9, u11, pI, hb5, qp5, ky_old hbk, iA, iR, iW, iI, hb6, qp6, bv, kE, gBool_u, iA1, iR1, iW1, iI1] <;> rfl)
    · first | rfl | (simp only [↓reduceIte, wantedA_eq, gBool_t, gBool_f, Bool.not_true, Bool.not_false, Bool.not_not, clsOf, clsCall, newBlk, allocOp, ev_tmp, Fr.ev, evs, evParts, ofV, ofA, ofS, ofSs, ofAs, nVar, AV.cells, rowOf_mk, rowT_mk, mkRowT_0, put_mk, put_none, upd_mk, withH_mk, keyOf_mk, ky_inj, pureOp, readOp, T.get_e, pFA, pFA1, pFA2, rLd, rdAB_row, oneCell_one, someAgg_s, hget_same, hget_hset_ite, pBin, binA, intOp_eql, intOp_neq, intOp_lss, intOp_leq, intOp_gtr, intOp_geq, pPick, List.length_cons, List.length_nil, List.getElem?_cons_zero, List.getElem?_cons_succ, List.drop_zero, List.drop_succ_cons, List.take_succ_cons, List.take_zero, Nat.zero_add, Nat.add_zero, Nat.reduceAdd, Nat.reduceLT, Nat.reduceLeDiff, Nat.reduceEqDiff, Nat.reduceMul, Nat.reduceSub, Nat.succ_eq_add_one, if_true, if_false, true_and, and_true, and_self, List.toList_toArray, Nat.add_eq, Nat.mul_eq, Nat.sub_eq, loadA_w, loadW_a, loadW_s, aSt_w, stOut_s, wrAB_row, ovr, List.set_cons_zero, List.set_cons_succ, allCell, ic_b, ic_i, ic_s, ic_np, ic_p, ic_g, ic_ns, ic_h, ic_sl, ic_nm, ic_m, ic_nf, ic_f, ic_ni, ic_if, pUn_not, callTo_s, heavyCall, target, actOp, pEx, List.nil_append, List.append_nil, pNil, pBuild, pBuild2, fieldsOk, buildParts, List.getElem?_nil, pMkF, binA, eqIn, eqGuardOk, pF, pF1, partA, beq_self_eq_true, bne_self_eq_false, decide_true, decide_false, Int.reduceBEq, Int.reduceBNe, Int.reduceLT, Int.reduceLE, Int.reduceEq, Int.reduceNeg, Int.reduceAdd, Int.reduceSub, Bool.and_true, Bool.true_and, Bool.and_false, Bool.false_and, stepOp, stHeavy, stV_mk, stB_mk, stO_mk, T.get_n, T.set_n, T.set_e, Nat.reduceDiv, Nat.reduceMod, ofNat_z, sz2, ag2, zr2, tg2, Tryz.underlying2, sz3, ag3, zr3, tg3, Tryz.underlying3, sz4, ag4, zr4, tg4, Tryz.underlying4, sz9, ag9, zr9, tg9, Tryz.underlying9, sz22, ag22, zr22, tg22, Tryz.underlying22, sz23, ag23, zr23, tg23, Tryz.underlying23, sz24, ag24, zr24, tg24, Tryz.underlying24, sz26, ag26, zr26, tg26, Tryz.underlying26, sz27, ag27, zr27, tg27, Tryz.underlying27, sz29, ag29, zr29, tg29, Tryz.underlying29, sz31, ag31, zr31, tg31, Tryz.underlying31, sz32, ag32, zr32, tg32, Tryz.underlying32, sz34, ag34, zr34, tg34, Tryz.underlying34, sz35, ag35, zr35, tg35, Tryz.underlying35, sz37, ag37, zr37, tg37, Tryz.underlying37, sz39, ag39, zr39, tg39, Tryz.underlying39, sz40, ag40, zr40, tg40, Tryz.underlying40, sz43, ag43, zr43, tg43, Tryz.underlying43, sz58, ag58, zr58, tg58, Tryz.underlying58, sz60, ag60, zr60, tg60, Tryz.underlying60, sz64, ag64, zr64, tg64, Tryz.underlying64, sz66, ag66, zr66, tg66, Tryz.underlying66, sz68, ag68, zr68, tg68, Tryz.underlying68, stepAny, wantedA_none, rCall, rLen, rLen1_str, rLen1_sl, lenA, Tget_set, natOf_c, Nat.left_eq_add, Nat.add_eq_left, Nat.testBit_eq_decide_div_mod_eq, Nat.reducePow, addMade_nil, addMade_cons, mad1_t, mad1_o, mad1_f, addAll_nil, addAll_cons, readsLeft_nil, readsLeft_cons, rdl1_t, rdl1_f, readsOk_nil, readsOk_cons, rok1_s, asideOk_nil, asideOk_cons, asd1_n, asd1_s, av_str, av_int, av_bool, av_ptr, av_sl, av_nils, av_nili, av_agg, av_if, avs_nil, avs_cons, Bool.and_self, av_self_slice, sA, sR, sW, sI, sA1, sR1, sW1, sI1, u1, u7, u9, u11, pI, hb5, qp5, ky_old hbk, iA, iR, iW, iI, hb6, qp6, bv, kE, gBool_u, iA1, iR1, iW1, iI1] <;> rfl)
    repeat' (first | refine st ?_ | ((with_reducible apply (r_drawG (id := 19) (js := [(0, 0), (1, 0), (2, 0), (3, 0), (4, 12), (5, 28), (6, 60), (7, 126), (8, 255), (9, 511), (10, 1023), (11, 1023), (12, 1023), (13, 7167), (14, 15359), (15, 31743), (16, 65535), (17, 131071), (18, 262143)]))); (focus kernel_rfl); (focus kernel_rfl); (focus (exact sd1))) | ((with_reducible apply g_end); (focus (simp only [List.length_cons, List.length_nil, Nat.add_assoc, Nat.reduceAdd, Nat.zero_add] <;> rfl)); simp only [withH_mk, addAll_nil, withH_mk, addAll_nil]) | ((with_reducible apply g_undef); (focus rfl); (focus (simp only [↓reduceIte, wantedA_eq, gBool_f, Bool.not_false, List.getElem?_cons_zero, List.getElem?_cons_succ, Nat.reduceEqDiff, wantedA_none, Tget_set] <;> rfl)); (focus (exact sd6))) | ((with_reducible apply g_pure); (focus rfl); (focus rfl); (focus (first | (simp only [↓reduceIte, wantedA_eq, gBool_f, Bool.not_false, List.getElem?_cons_zero, List.getElem?_cons_succ, Nat.reduceEqDiff, wantedA_none, Tget_set] <;> rfl) | rfl)); (focus (simp only [↓reduceIte, Bool.not_true, Fr.ev, pureOp, pFA, pFA1, pFA2, pBin, binA, pPick, List.getElem?_cons_zero, List.getElem?_cons_succ, Nat.reduceEqDiff, Nat.add_eq, pUn_not, binA, eqIn, eqGuardOk, beq_self_eq_true, Tryz.underlying4, sz34, Tryz.underlying37, Tget_set, u1, u11, pI] <;> rfl)); (focus (exact sd6))) | ((with_reducible apply g_read); (focus rfl); (focus rfl); (focus (first | (simp only [↓reduceIte, wantedA_eq, gBool_f, Bool.not_false, List.getElem?_cons_zero, List.getElem?_cons_succ, Nat.reduceEqDiff, Tget_set] <;> rfl) | rfl)); (focus (simp only [↓reduceIte, Fr.ev, readOp, rLd, rdAB_row, someAgg_s, List.length_cons, List.length_nil, List.drop_zero, List.take_succ_cons, List.take_zero, Nat.zero_add, Nat.reduceAdd, Nat.reduceLeDiff, Nat.reduceEqDiff, loadA_w, loadW_a, sz34, ag34, Tget_set, addMade_nil, hb6, qp6] <;> rfl)); (focus (exact sd6))) | ((with_reducible apply g_act); (focus rfl); (focus rfl); (focus rfl); (focus (first | (simp only [↓reduceIte, wantedA_eq, gBool_f, Bool.not_false, List.getElem?_cons_zero, List.getElem?_cons_succ, Nat.reduceEqDiff, Tget_set] <;> rfl) | rfl)); (focus (simp only [heavy, ↓reduceIte, Fr.ev, evs, withH_mk, Nat.reduceEqDiff, callTo_s, heavyCall, target, List.nil_append, List.append_nil, Tget_set, addMade_nil, kE] <;> rfl)); (focus (exact sd6)); (focus (simp only [decide_true, Nat.reduceDiv, Nat.reduceMod, Nat.testBit_eq_decide_div_mod_eq, Nat.reducePow, readsLeft_nil, readsLeft_cons, rdl1_t, readsOk_nil] <;> rfl)); (focus (simp only [addMade_nil, asideOk_nil] <;> rfl))) | ((with_reducible (first | apply r_any | apply r_cond)); focus (simp only [↓reduceIte, clsOf, clsCall, Fr.ev, evs, put_mk, readOp, rLd, rdAB_row, someAgg_s, List.length_cons, List.length_nil, List.drop_zero, List.take_succ_cons, List.take_zero, Nat.zero_add, Nat.reduceAdd, Nat.reduceLT, Nat.reduceLeDiff, Nat.reduceEqDiff, loadA_w, loadW_a, callTo_s, heavyCall, target, List.nil_append, List.append_nil, stepOp, stHeavy, stV_mk, sz34, ag34, stepAny, wantedA_none, Tget_set, hb6] <;> rfl)))
    refine r_callC (S := SL) (f := 13) (by first | rfl | (simp only [wantedA_none, Tget_set])) (by simp only [callOuts, callTo_s, target, evs, Fr.ev, Tget_set, ↓reduceIte, List.nil_append, List.append_nil]; exact kc_miss rfl) ?_ ?_
    · exact spoilQ hx16 wx6 (by omega) hsm
    intro oo ho
    obtain ⟨v7, h7, rfl, hch⟩ := ho
    have hch7 : ∀ i, i < ky F6 0 → (i < ky g 0 ∨ ky (g + 1 + 1) 0 ≤ i) → hget h7 i = hget h6 i := fun i hi hi2 => hch i hi (pas_keyN hx16 hi2)
    have k6b : k6 < ky g 0 ∨ ky (g + 1 + 1) 0 ≤ k6 := by rcases hk6a with rfl | h <;> omega
    have k5b : k5 < ky g 0 ∨ ky (g + 1 + 1) 0 ≤ k5 := by rcases hk5a with rfl | h <;> omega
    have cA7 := ((cA6.chg hch7 (fun A B e => e) ⟨by omega, kcg⟩ ⟨by omega, k5b⟩ (show F6 ≤ F6 + 1 by omega)).weak (E' := fun _ _ => True) (fun _ _ _ _ => trivial))
    have cB7 := ((cB6.chg hch7 (fun A B e => e) ⟨by omega, kwg⟩ ⟨hk6b, k6b⟩ (show F6 ≤ F6 + 1 by omega)).weak (E' := fun _ _ => True) (fun _ _ _ _ => trivial))
    have hF61 : ky F6 0 ≤ ky (F6 + 1) 0 := ky_mono (Nat.le_succ F6)
    have hlow7 : Low F h h7 := hlow6.trans fun i hi => hch7 i (by omega) (.inl (by omega))
    refine ⟨_, by simp only [put_mk, Nat.reduceLT, ↓reduceIte] <;> rfl, ?_⟩
    repeat' (first | refine st ?_ | ((with_reducible apply r_drawL); (focus kernel_rfl); (focus kernel_rfl); (focus (exact sd1))))
    refine norm_at ⟨_, _, h7, F6 + 1, k5, k6, y, z, putP most L d.ps, rfl, rfl, by omega, by omega, by omega, hlow7, cA7, cB7, ?_, putP_len, fun q hq => ?_, by omega, by omega, fun c hc hc2 => ?_, sd8, sd8, sd8, sd8⟩
    · refine ⟨?_, by omega, k5c, k5w, ?_, by omega, ?_, ?_, ?_⟩
      · rcases hk5a with rfl | h <;> omega
      · rcases hk6a with rfl | h <;> omega
      · rcases hk6a with rfl | h <;> omega
      · rcases hk6a with rfl | h <;> omega
      · rcases hk6a with rfl | h
        · exact k52
        · omega
    · rcases putP_mem hq with h | rfl
      · exact hsL q h
      · exact ⟨by omega, by omega, by omega, by omega⟩
    · have hcF := ky_next F c hc2
      rw [hch7 _ (by omega) (.inl (by omega)), lw6 _ (by omega) (by omega) (by omega), lw5 _ (by omega) (by omega) (by omega), e4, hget_hset, if_neg (by rw [ky_inj]; omega), hget_hset, if_neg (by rw [ky_inj]; omega), l3 _ (by omega)]
      exact hclean c (by omega) hc2
  by_cases k2' : d.kind = 2
  · have e1 : (d.kind == 1) = false := beq_eq_false_iff_ne.2 k1'
    have e2' : (d.kind == 2) = true := by rw [k2']; rfl
    obtain ⟨_, okc, okt, okn⟩ := did_ok hok
    have hRA : LstI 0 F h ksV ra d.rargs := q5.below hw (by decide)
    have iRA := isCell_L q5
    have hsmL : ∀ q ∈ L, smallP 100000 q := fun q hq => by
      obtain ⟨s1, s2, s3, s4⟩ := hsL q hq
      exact ⟨by omega, by omega, by omega, by omega⟩
    repeat' (first | refine st ?_ | ((with_reducible apply r_drawL); (focus kernel_rfl); (focus kernel_rfl); (focus (exact sd1))) | ((with_reducible (first | apply r_any | apply r_cond)); focus (simp only [↓reduceIte, clsOf, clsCall, Fr.ev, evs, ofV, ofA, ofS, put_mk, pureOp, readOp, pFA, pFA1, pFA2, rLd, someAgg_s, pBin, binA, intOp_eql, List.getElem?_cons_zero, List.getElem?_cons_succ, Nat.reduceLT, Nat.reduceEqDiff, Nat.add_eq, loadA_w, loadW_a, callTo_s, heavyCall, target, List.nil_append, List.append_nil, binA, stepOp, stHeavy, stV_mk, sz26, ag26, Tryz.underlying37, stepAny, wantedA_none, Tget_set, e1, e2', pI, qr] <;> rfl)))
    refine r_callC (S := SL) (f := 15) (by first | rfl | (simp only [wantedA_none, Tget_set])) (by simp only [callOuts, callTo_s, target, evs, Fr.ev, Tget_set, ↓reduceIte, List.nil_append, List.append_nil]; exact kc_miss rfl) ?_ ?_
    · exact reqQ (q5.same hS1) (by omega)
    intro oo ho
    obtain ⟨a3, h3, rfl, hA3, low3, hs3⟩ := ho d.rargs (q5.same hS1)
    have hA3 : LstI (g + 1) (g + 1 + 1) h3 ksV a3 d.rargs := hA3
    have l3 : Low g h1 h3 := low3
    have iA3 := isCell_L hA3.p
    refine ⟨_, by simp only [put_mk, Nat.reduceLT, ↓reduceIte] <;> rfl, ?_⟩
    repeat' (first | refine st ?_ | ((with_reducible apply r_drawL); (focus kernel_rfl); (focus kernel_rfl); (focus (exact sd1))) | ((with_reducible (first | apply r_any | apply r_cond)); focus (simp only [↓reduceIte, clsOf, clsCall, Fr.ev, evs, Nat.reduceEqDiff, callTo_s, heavyCall, target, List.nil_append, List.append_nil, stepOp, stHeavy, stepAny, wantedA_none, Tget_set] <;> rfl)))
    have E3 : EqI (F + 1) g h1 h3 := (EqI.refl _ _ h1).call l3 (Nat.le_refl g)
    have cA3 := (cA.weak (E' := fun A B => B ≤ g) (fun A B hB _ => hB)).eq E3 ⟨kc1, kcg⟩ ⟨ka1, ka2⟩ (show g ≤ g + 1 + 1 by omega)
    have cB3 := (cB.weak (E' := fun A B => B ≤ g) (fun A B hB _ => hB)).eq E3 ⟨by omega, kwg⟩ ⟨kb1, kb2⟩ (show g ≤ g + 1 + 1 by omega)
    obtain ⟨lA, XA, gA, sA3, kpA⟩ := id cA3
    have hg11 : ky g 0 ≤ ky (g + 1) 0 := ky_mono (by omega)
    have hg22 : ky g 0 ≤ ky (g + 1 + 1) 0 := ky_mono (by omega)
    have kcg2 : kc < ky (g + 1 + 1) 0 := by omega
    have kwg2 : kw < ky (g + 1 + 1) 0 := by omega
    have kag2 : k < ky (g + 1 + 1) 0 := by omega
    have kbg2 : k2 < ky (g + 1 + 1) 0 := by omega
    refine r_callC (S := SL) (f := 14) (by first | rfl | (simp only [wantedA_none, Tget_set])) (by simp only [callOuts, callTo_s, target, evs, Fr.ev, Tget_set, Nat.reduceEqDiff, ↓reduceIte, List.nil_append, List.append_nil]; exact kc_miss rfl) ?_ ?_
    · exact getAQ kcg2 kag2 (Ne.symm ka3) gA sA3 kpA (Nat.le_refl _) (fun A B q => outC q.1 ecF (by decide)) hA3 (.inl (by omega)) (Nat.le_refl _) ⟨okc, okt, okn⟩ (by omega) hsmL (by omega) (by omega) (by omega)
    intro oo ho
    obtain ⟨x4, h4, F4, rfl, hF4, gA4, hx4, lk4, wx4⟩ := ho _ lA y z XA L d.rargs gA ⟨_, _, sA3⟩ ⟨_, _, kpA⟩ hA3.p
    have hF4 : g + 1 + 1 + 1 ≤ F4 := hF4
    have hx4 : PasI (g + 1 + 1 + 1) F4 h4 x4 (getP d.rc d.rt d.rn d.rargs L) := hx4
    have lk4 : LowK kc (g + 1 + 1) h3 h4 := lk4
    obtain ⟨vb, hvb⟩ : ∃ v, v = dec (fndP d.rn d.rargs L ≠ none) := ⟨_, rfl⟩
    rw [← hvb]
    have bv : (vb != vb) = false := by cases vb <;> rfl
    obtain ⟨pq, epq⟩ : ∃ pq, pq = getP d.rc d.rt d.rn d.rargs L := ⟨_, rfl⟩
    rw [← epq] at hx4
    obtain ⟨y', ey⟩ : ∃ y', y' = y + if fndP d.rn d.rargs L = none then 0 else 1 := ⟨_, rfl⟩
    obtain ⟨z', ez⟩ : ∃ z', z' = z + if fndP d.rn d.rargs L = none then 1 else 0 := ⟨_, rfl⟩
    rw [← ey, ← ez] at gA4
    have hy' : 0 ≤ y' ∧ y' ≤ i + 1 := by rw [ey]; split <;> omega
    have hz' : 0 ≤ z' ∧ z' ≤ i + 1 := by rw [ez]; split <;> omega
    have hpqi : pq.it.length ≤ 100000 := by
      rw [epq]
      unfold getP
      split
      · split
        · rename_i q hq
          have := (hsL q (List.mem_of_getElem? hq)).2.2.2
          show q.it.length ≤ 100000
          omega
        · decide
      · decide
    have hpqs : smallP 100000 pq := by
      rw [epq]
      unfold getP
      split
      · split
        · rename_i q hq
          obtain ⟨s1, s2, s3, s4⟩ := hsL q (List.mem_of_getElem? hq)
          exact ⟨show d.rargs.length ≤ 100000 by omega, show q.rd.length ≤ 100000 by omega, show q.wr.length ≤ 100000 by omega, show q.it.length ≤ 100000 by omega⟩
        · exact ⟨by decide, by decide, by decide, by decide⟩
      · exact ⟨by decide, by decide, by decide, by decide⟩
    obtain ⟨ok4, a4, r4, w4, i4, rfl, hA4, hR4, hW4, hI4⟩ := id hx4
    have iA4 := isCell_L hA4.p
    have iR4 := isCell_L hR4.p
    have iW4 := isCell_L hW4.p
    have iI4 := isCell_L hI4.p
    have hlow4 : Low F h h4 := hlow.trans ((l3.down (by omega)).trans fun i hi => lk4 i (by omega) (by omega))
    have qr4 : rdAB (hget h4 b) (o + i * 14 + 9) 4 = some [.int .i64 d.rc, .int .u64 d.rt, .str d.rn, ra] := by rw [hlow4 b hbk]; exact hp 9 4 (by decide)
    refine ⟨_, by simp only [put_mk, Nat.reduceLT, ↓reduceIte] <;> rfl, ?_⟩
    repeat' (first | refine st ?_ | ((with_reducible apply r_drawL); (focus kernel_rfl); (focus kernel_rfl); (focus (exact sd1))) | ((with_reducible (first | apply r_any | apply r_cond)); focus (simp only [↓reduceIte, clsOf, clsCall, newBlk, allocOp, Fr.ev, evs, nVar, AV.cells, rowOf_mk, put_mk, put_none, upd_mk, keyOf_mk, pureOp, readOp, pFA, pFA1, pFA2, rLd, someAgg_s, hget_same, hget_hset_ite, List.length_cons, List.length_nil, List.getElem?_cons_zero, List.getElem?_cons_succ, Nat.zero_add, Nat.reduceAdd, Nat.reduceLT, Nat.reduceLeDiff, Nat.reduceEqDiff, and_self, Nat.add_eq, loadA_w, loadW_a, aSt_w, stOut_s, wrAB_row, ovr, List.set_cons_zero, List.set_cons_succ, allCell, ic_i, ic_s, callTo_s, heavyCall, target, actOp, pEx, List.nil_append, List.append_nil, stepOp, stHeavy, stV_mk, stB_mk, stO_mk, sz26, ag26, sz34, zr34, tg34, Tryz.underlying37, stepAny, wantedA_none, Tget_set, iA4, iR4, iW4, iI4, pI, qr4, ky_old hbk] <;> rfl)))
    have hlcb : lc2 + 17 + 11 ≤ 1267650600228229401496703205375 := by omega
    have hlcb2 : lc2 + 31 + 10 ≤ 1267650600228229401496703205375 := by omega
    have hK1 : ky F (lc2 + 17 + 11) < ky (F + 1) 0 := ky_next F _ hlcb
    have hK2 : ky F (lc2 + 31 + 10) < ky (F + 1) 0 := ky_next F _ hlcb2
    obtain ⟨h5, e5⟩ : ∃ h5, h5 = hset (hset h4 (ky F (lc2 + 17 + 11)) (mkRow [.int .i64 0, .int .u64 0, .str [], .nils, .int .i64 0, .nils, .nils, .nils] 0)) (ky F (lc2 + 17 + 11)) (mkRow [.int .i64 pq.cl, .int .u64 pq.tok, .str pq.nm, a4, .int .i64 pq.how, r4, w4, i4] 0) := ⟨_, rfl⟩
    rw [← e5]
    have E5 : ∀ A B, F < A → EqI A B h4 h5 := fun A B hA => by rw [e5]; exact (((EqI.refl _ _ h4).set (.inl hA) hlcb).set (.inl hA) hlcb)
    have b5 : hget h5 (ky F (lc2 + 17 + 11)) = some (mkRow [.int .i64 pq.cl, .int .u64 pq.tok, .str pq.nm, a4, .int .i64 pq.how, r4, w4, i4] 0) := by rw [e5, hget_hset, if_pos rfl]
    have hF42 : ky (g + 1 + 1) 0 ≤ ky F4 0 := ky_mono (by omega)
    have hlow5 : Low F h h5 := by rw [e5]; exact (hlow4.set (Nat.le_refl F)).set (Nat.le_refl F)
    have cA4 := CI.count (g' := F4) sA3 kpA ecF (by decide) ⟨ka3, kag2⟩ gA4 lk4 (by omega)
    have cB4 := cB3.low2 (g' := F4) (lk4.two (kb := kc)) ⟨Ne.symm hkcw, Ne.symm hkcw, kwg2⟩ ⟨kb3, kb3, kbg2⟩ ecF (by decide) (.inr rfl) (by omega)
    have cA5 := cA4.eq (E5 _ _ (Nat.lt_succ_self F)) ⟨kc1, by omega⟩ ⟨ka1, by omega⟩ (Nat.le_refl F4)
    have cB5 := cB4.eq (E5 _ _ (Nat.lt_succ_self F)) ⟨by omega, by omega⟩ ⟨kb1, by omega⟩ (Nat.le_refl F4)
    obtain ⟨lB, XB, gB, sB5, kpB⟩ := id cB5
    have hRA5 : LstI 0 F h5 ksV ra d.rargs := hRA.move ((EqI.refl _ _ h).call hlow5 (Nat.le_refl F))
    refine r_callC (S := SL) (f := 16) (by first | rfl | (simp only [wantedA_none, Tget_set])) (by simp only [callOuts, callTo_s, target, evs, Fr.ev, Tget_set, Nat.reduceEqDiff, ↓reduceIte, List.nil_append, List.append_nil]; exact kc_miss rfl) ?_ ?_
    · exact getBQ (by omega) (by omega) (Ne.symm kb4) gB sB5 kpB (Nat.le_refl _) (fun A B q => outC q.1 ewF (by decide)) hRA5 (.inr (by omega)) (by omega) ⟨okc, okt, okn⟩ (by omega) hsmL (by omega) (by omega) (by omega)
    intro oo ho
    obtain ⟨x6, h6, F6, rfl, hF6, gB6, hx6, lk6, wx6⟩ := ho _ lB y z XB L d.rargs gB ⟨_, _, sB5⟩ ⟨_, _, kpB⟩ hRA5.p
    have hF6 : F4 + 1 ≤ F6 := hF6
    have hx6 : PasI (F4 + 1) F6 h6 x6 (getP d.rc d.rt d.rn d.rargs L) := hx6
    have lk6 : LowK kw F4 h5 h6 := lk6
    rw [← hvb]
    rw [← epq] at hx6
    rw [← ey, ← ez] at gB6
    obtain ⟨ok6, a6, r6, w6, i6, rfl, hA6, hR6, hW6, hI6⟩ := id hx6
    have iA6 := isCell_L hA6.p
    have iR6 := isCell_L hR6.p
    have iW6 := isCell_L hW6.p
    have iI6 := isCell_L hI6.p
    have b6 : hget h6 (ky F (lc2 + 17 + 11)) = some (mkRow [.int .i64 pq.cl, .int .u64 pq.tok, .str pq.nm, a4, .int .i64 pq.how, r4, w4, i4] 0) := (lk6 _ (by omega) (by omega)).trans b5
    have kn1 : (lc2 + 17 + 11 = lc2 + 31 + 10) = False := eq_false (by omega)
    have kn2 : (lc2 + 31 + 10 = lc2 + 17 + 11) = False := eq_false (by omega)
    refine ⟨_, by simp only [put_mk, Nat.reduceLT, ↓reduceIte] <;> rfl, ?_⟩
    repeat' (first | refine st ?_ | ((with_reducible apply r_drawL); (focus kernel_rfl); (focus kernel_rfl); (focus (exact sd1))) | ((with_reducible (first | apply r_any | apply r_cond)); focus (simp only [↓reduceIte, Bool.not_true, clsOf, clsCall, newBlk, allocOp, Fr.ev, evs, nVar, AV.cells, rowOf_mk, put_mk, put_none, upd_mk, keyOf_mk, ky_inj, pureOp, readOp, rLd, rdAB_row, someAgg_s, hget_same, hget_hset_ite, pBin, binA, List.length_cons, List.length_nil, List.getElem?_cons_zero, List.getElem?_cons_succ, List.drop_zero, List.take_succ_cons, List.take_zero, Nat.zero_add, Nat.reduceAdd, Nat.reduceLT, Nat.reduceLeDiff, Nat.reduceEqDiff, and_self, loadA_w, loadW_a, aSt_w, stOut_s, wrAB_row, ovr, List.set_cons_zero, List.set_cons_succ, allCell, ic_i, ic_s, callTo_s, heavyCall, target, actOp, pEx, List.nil_append, List.append_nil, binA, eqIn, eqGuardOk, beq_self_eq_true, stepOp, stHeavy, stV_mk, stB_mk, stO_mk, Tryz.underlying4, sz34, ag34, zr34, tg34, stepAny, wantedA_none, Tget_set, iA6, iR6, iW6, iI6, b6, kn1] <;> rfl)))
    obtain ⟨h7, e7⟩ : ∃ h7, h7 = hset (hset h6 (ky F (lc2 + 31 + 10)) (mkRow [.int .i64 0, .int .u64 0, .str [], .nils, .int .i64 0, .nils, .nils, .nils] 0)) (ky F (lc2 + 31 + 10)) (mkRow [.int .i64 pq.cl, .int .u64 pq.tok, .str pq.nm, a6, .int .i64 pq.how, r6, w6, i6] 0) := ⟨_, rfl⟩
    rw [← e7]
    have E7 : ∀ A B, F < A → EqI A B h6 h7 := fun A B hA => by rw [e7]; exact (((EqI.refl _ _ h6).set (.inl hA) hlcb2).set (.inl hA) hlcb2)
    have b7 : hget h7 (ky F (lc2 + 17 + 11)) = some (mkRow [.int .i64 pq.cl, .int .u64 pq.tok, .str pq.nm, a4, .int .i64 pq.how, r4, w4, i4] 0) := by rw [e7, hget_hset, if_neg (by rw [ky_inj]; omega), hget_hset, if_neg (by rw [ky_inj]; omega)]; exact b6
    have hF64 : ky F4 0 ≤ ky F6 0 := ky_mono (by omega)
    have E46 : EqI (g + 1 + 1 + 1) F4 h4 h7 := ((E5 _ _ (by omega)).trans (lk6.eqI (.inl (Nat.lt_of_lt_of_le kwg (ky_mono (by omega)))) (Nat.le_refl F4))).trans (E7 _ _ (by omega))
    have hx47 : PasI (g + 1 + 1 + 1) F4 h7 [.int .i64 pq.cl, .int .u64 pq.tok, .str pq.nm, a4, .int .i64 pq.how, r4, w4, i4] pq := hx4.move E46
    have wx47 : WrX h7 [.int .i64 pq.cl, .int .u64 pq.tok, .str pq.nm, a4, .int .i64 pq.how, r4, w4, i4] := wrx_move wx4 hx4 E46
    have hx67 : PasI (F4 + 1) F6 h7 [.int .i64 pq.cl, .int .u64 pq.tok, .str pq.nm, a6, .int .i64 pq.how, r6, w6, i6] pq := hx6.move (E7 _ _ (by omega))
    have kE := k_equal (S := SL) (F := F6) (PasI.p hx47) (PasI.p hx67) hpqi (SameH.refl h7)
    repeat' (first | refine st ?_ | ((with_reducible apply r_drawL); (focus kernel_rfl); (focus kernel_rfl); (focus (exact sd1))) | ((with_reducible (first | apply r_any | apply r_cond)); focus (simp only [↓reduceIte, Bool.not_true, clsOf, clsCall, Fr.ev, evs, put_mk, pureOp, readOp, rLd, rdAB_row, someAgg_s, pPick, List.length_cons, List.length_nil, List.drop_zero, List.take_succ_cons, List.take_zero, Nat.zero_add, Nat.reduceAdd, Nat.reduceLT, Nat.reduceLeDiff, Nat.reduceEqDiff, loadA_w, loadW_a, pUn_not, callTo_s, heavyCall, target, List.nil_append, List.append_nil, stepOp, stHeavy, stV_mk, stO_mk, sz34, ag34, stepAny, wantedA_none, Tget_set, kE, b7] <;> rfl)))
    refine r_callC (S := SL) (f := 13) (by first | rfl | (simp only [wantedA_none, Tget_set])) (by simp only [callOuts, callTo_s, target, evs, Fr.ev, Tget_set, ↓reduceIte, List.nil_append, List.append_nil]; exact kc_miss rfl) ?_ ?_
    · exact spoilQ hx47 wx47 (by omega) hpqs
    intro oo ho
    obtain ⟨v8, h8, rfl, hch⟩ := ho
    have hch8 : ∀ i, i < ky F6 0 → (i < ky (g + 1 + 1 + 1) 0 ∨ ky F4 0 ≤ i) → hget h8 i = hget h7 i := fun i hi hi2 => hch i hi (pas_keyN hx47 hi2)
    have hg33 : ky g 0 ≤ ky (g + 1 + 1 + 1) 0 := ky_mono (by omega)
    have cA6 := (cA5.low2 (g' := F6) (lk6.two (kb := kw)) ⟨hkcw, hkcw, by omega⟩ ⟨ka4, ka4, by omega⟩ ewF (by decide) (.inr rfl) (by omega)).eq (E7 _ _ (Nat.lt_succ_self F)) ⟨kc1, by omega⟩ ⟨ka1, by omega⟩ (Nat.le_refl F6)
    have cB6 := (CI.count (g' := F6) sB5 kpB ewF (by decide) ⟨kb4, by omega⟩ gB6 lk6 (by omega)).eq (E7 _ _ (Nat.lt_succ_self F)) ⟨by omega, by omega⟩ ⟨kb1, by omega⟩ (Nat.le_refl F6)
    have cA8 := (cA6.chg (g' := F6 + 1) hch8 (fun A B e => .inl (by omega)) ⟨by omega, by omega⟩ ⟨by omega, .inl (by omega)⟩ (Nat.le_succ F6)).weak (E' := fun _ _ => True) (fun _ _ _ _ => trivial)
    have cB8 := (cB6.chg (g' := F6 + 1) hch8 (fun A B e => .inl (by omega)) ⟨by omega, by omega⟩ ⟨by omega, .inl (by omega)⟩ (Nat.le_succ F6)).weak (E' := fun _ _ => True) (fun _ _ _ _ => trivial)
    have hF61 : ky F6 0 ≤ ky (F6 + 1) 0 := ky_mono (Nat.le_succ F6)
    have hlow6 : Low F h h6 := hlow5.trans fun i hi => lk6 i (by omega) (by omega)
    have hlow7 : Low F h h7 := by rw [e7]; exact (hlow6.set (Nat.le_refl F)).set (Nat.le_refl F)
    have hlow8 : Low F h h8 := hlow7.trans fun i hi => hch8 i (by omega) (.inl (by omega))
    refine ⟨_, by simp only [put_mk, Nat.reduceLT, ↓reduceIte] <;> rfl, ?_⟩
    repeat' (first | refine st ?_ | ((with_reducible apply r_drawL); (focus kernel_rfl); (focus kernel_rfl); (focus (exact sd1))))
    refine norm_at ⟨_, _, h8, F6 + 1, k, k2, y', z', L, rfl, rfl, by omega, by omega, by omega, hlow8, cA8, cB8, ⟨ka1, by omega, ka3, ka4, kb1, by omega, kb3, kb4, kab⟩, hLm, hsL, hy', hz', fun c hc hc2 => ?_, sd8, sd8, sd8, sd8⟩
    have hcF := ky_next F c hc2
    rw [hch8 _ (by omega) (.inl (by omega)), e7, hget_hset, if_neg (by rw [ky_inj]; omega), hget_hset, if_neg (by rw [ky_inj]; omega), lk6 _ (by omega) (by omega), e5, hget_hset, if_neg (by rw [ky_inj]; omega), hget_hset, if_neg (by rw [ky_inj]; omega), lk4 _ (by omega) (by omega), l3 _ (by omega)]
    exact hclean c (by omega) hc2
  by_cases k3' : d.kind = 3
  · have e1 : (d.kind == 1) = false := beq_eq_false_iff_ne.2 k1'
    have e2' : (d.kind == 2) = false := beq_eq_false_iff_ne.2 k2'
    have e3 : (d.kind == 3) = true := by rw [k3']; rfl
    have hWV : LstI 0 F h ksW wv d.w := q6.below hw (by decide)
    have iWV := isCell_L q6
    have sWV := av_self_L q6
    have hsmL : ∀ q ∈ L, smallP 100000 q := fun q hq => by
      obtain ⟨s1, s2, s3, s4⟩ := hsL q hq
      exact ⟨by omega, by omega, by omega, by omega⟩
    have hlcb : lc2 + 19 + 7 ≤ 1267650600228229401496703205375 := by omega
    have nKM : hget h1 (ky F (lc2 + 19 + 1)) = none := hclean _ (by omega) (by omega)
    have nKA : hget h1 (ky F (lc2 + 19 + 7)) = none := hclean _ (by omega) (by omega)
    have lowM : Low F h (hset h1 (ky F (lc2 + 19 + 1)) (mkRow [] 5)) := hlow.set (Nat.le_refl F)
    obtain ⟨w2, h3, ap1, g1, m1⟩ := EGr.app0 (P := Tryz.prog) (t := 35) (t2 := 35) (ks := ksW) (lc := lc2 + 19 + 2) (k := lc2 + 19 + 7) (c := lc2 + 19 + 1) (f := g) (h := hset h1 (ky F (lc2 + 19 + 1)) (mkRow [] 5)) rfl (by rw [hget_hset, if_pos rfl]; rfl) (q6.same (lowM.same hw)) Tryz.underlying35 Tryz.underlying35 sz68 by_W zo_W (by omega) (by decide) (by omega) (by omega)
    have hKMF := ky_next F (lc2 + 19 + 1) (by omega)
    have hKAF := ky_next F (lc2 + 19 + 7) hlcb
    have r1 : hget h3 (ky F (lc2 + 19 + 1)) = some (mkRow [] 5) := by rw [m1 _ (by rw [Ne, ky_inj]; omega), hget_hset, if_pos rfl]
    have E3 : EqI (F + 1) g h1 h3 := fun b h1 h2 => by rw [m1 b (by omega), hget_hset, if_neg (by omega)]
    have hlow3 : Low F h h3 := fun i hi => (m1 i (by have := ky_le F (lc2 + 19 + 7); omega)).trans (lowM i hi)
    have hU : LstI F (F + 1) h3 ksW w2 d.w := g1.lstI (ks := ksW) q6.1 (by omega) (by omega)
    have iW2 := g1.cell
    have xw2 := g1.cls
    simp only [AV.cells] at xw2
    have sW2 := av_self_L hU.p
    have qw3 : rdAB (hget h3 b) (o + i * 14 + 13) 1 = some [wv] := by rw [hlow3 b hbk]; exact hp 13 1 (by decide)
    have cA3 := cA.eq E3 ⟨kc1, kcg⟩ ⟨ka1, ka2⟩ (Nat.le_refl g)
    have cB3 := cB.eq E3 ⟨by omega, kwg⟩ ⟨kb1, kb2⟩ (Nat.le_refl g)
    obtain ⟨lA, XA, gA, sA3, kpA⟩ := id cA3
    repeat' (first | refine st ?_ | ((with_reducible (first | apply r_any | apply r_cond)); focus (simp only [↓reduceIte, clsOf, Fr.ev, ofV, ofA, ofS, put_mk, pureOp, pBin, binA, intOp_eql, Nat.reduceLT, Nat.reduceEqDiff, binA, stepOp, stV_mk, stepAny, wantedA_none, Tget_set, e1, e2', e3] <;> rfl)))
    repeat' (first | refine st ?_ | ((with_reducible apply (r_drawG (id := 29) (js := [(0, 0), (1, 0), (2, 0), (3, 0), (4, 12), (5, 28), (6, 60), (9, 0), (10, 0), (11, 0), (12, 3072), (13, 7168), (14, 15360), (7, 126), (8, 255), (15, 32767), (16, 65535)]))); (focus kernel_rfl); (focus kernel_rfl); (focus (exact sd1))) | ((with_reducible apply g_undef); (focus rfl); (focus (simp only [wantedA_none] <;> rfl)); (focus (exact sd6))) | ((with_reducible apply g_pure); (focus rfl); (focus rfl); (focus (first | (simp only [wantedA_none] <;> rfl) | rfl)); (focus (simp only [↓reduceIte, Fr.ev, pureOp, pFA, pFA1, pFA2, List.getElem?_cons_zero, List.getElem?_cons_succ, Nat.reduceEqDiff, Nat.add_eq, sz35, Tryz.underlying37, Tget_set, u1, u7, u9, u11, pI] <;> rfl)); (focus (exact sd6))) | ((with_reducible apply g_read); (focus rfl); (focus rfl); (focus (first | (simp only [wantedA_none] <;> rfl) | rfl)); (focus (simp only [↓reduceIte, Fr.ev, readOp, rLd, oneCell_one, Nat.reduceEqDiff, loadA_w, loadW_s, decide_false, Nat.reduceDiv, Nat.reduceMod, sz35, ag35, Tget_set, Nat.testBit_eq_decide_div_mod_eq, Nat.reducePow, addMade_nil, addMade_cons, mad1_f, qw, nKM] <;> rfl)); (focus (exact sd6))) | ((with_reducible apply g_alloc); (focus rfl); (focus rfl); (focus (first | (simp only [wantedA_none] <;> rfl) | rfl)); (focus (simp only [keyOf_mk] <;> rfl)); (focus (simp only [allocOp, evParts, Tryz.underlying35, nBS_W] <;> rfl)); (focus (simp only [nKM])); (focus (exact sd6))) | ((with_reducible apply g_act); (focus rfl); (focus rfl); (focus rfl); (focus (first | (simp only [wantedA_none] <;> rfl) | rfl)); (focus (simp only [heavy, ↓reduceIte, Fr.ev, evs, withH_mk, keyOf_mk, Nat.reduceEqDiff, callTo_s, heavyCall, target, List.nil_append, List.append_nil, decide_true, Nat.reduceDiv, Nat.reduceMod, Tget_set, Nat.testBit_eq_decide_div_mod_eq, Nat.reducePow, addMade_nil, addMade_cons, mad1_t, mad1_o, nKM, aBuiltin, aApp, aApp2, outOf, ap1, r1] <;> rfl)); (focus (exact sd6)); (focus (simp only [↓reduceIte, Fr.ev, readOp, rLd, oneCell_one, Nat.reduceEqDiff, loadA_w, loadW_s, decide_true, decide_false, Nat.reduceDiv, Nat.reduceMod, sz35, ag35, Tget_set, Nat.testBit_eq_decide_div_mod_eq, Nat.reducePow, addMade_nil, addMade_cons, mad1_f, readsLeft_nil, readsLeft_cons, rdl1_t, rdl1_f, readsOk_nil, readsOk_cons, rok1_s, Bool.and_self, r1, qw3, sWV] <;> rfl)); (focus (simp only [hget_same, decide_true, Nat.reduceDiv, Nat.reduceMod, Nat.testBit_eq_decide_div_mod_eq, Nat.reducePow, addMade_nil, addMade_cons, mad1_t, asideOk_nil, asideOk_cons, asd1_s, nKM, r1] <;> rfl))))
    refine g_callC (S := SL) (f := 17) (s0 := ⟨h3, g⟩) (by rfl) (by first | (simp only [wantedA_none]; done) | rfl) (by first | (simp only [withH_mk, Nat.testBit_eq_decide_div_mod_eq, Nat.reducePow, addMade_nil, addMade_cons, r1]; done) | (simp only [withH_mk, Nat.testBit_eq_decide_div_mod_eq, Nat.reducePow, addMade_nil, addMade_cons, r1] <;> rfl)) (by simp only [callOuts, callTo_s, target, evs, Fr.ev, Tget_set, Nat.reduceEqDiff, ↓reduceIte, List.nil_append, List.append_nil]; exact kc_miss rfl) ?_ ?_
    · exact touchAQ kcg ka2 (Ne.symm ka3) gA sA3 kpA (Nat.le_refl _) (fun A B q => q.2.1) hU (.inr ka1) (by omega) (by omega)
    intro oo ho
    obtain ⟨l5, h5, rfl, gA5, hk5, hun5⟩ := ho _ lA _ _ XA L d.w gA ⟨_, _, sA3⟩ ⟨_, _, kpA⟩ hU.p
    have sA5 : LS true h5 k 8 l5 ((kpZ (d.w.map keyI) XA L L.length).map (·.1)) := by
      rcases hk5 with ⟨e, e2⟩ | ⟨k', ⟨_, _, _, _, e⟩, s5⟩
      · rw [e2]; exact .inl ⟨e, rfl⟩
      · have := sA3.key e
        rw [this] at s5; exact s5
    have lw5 : Low2 kc k g h3 h5 := fun i hi h1 h2 => hun5 i hi h1 (sA3.ne h2)
    have hg22 : ky g 0 ≤ ky (g + 1 + 1) 0 := ky_mono (by omega)
    have cA5 := CI.touch (g' := g + 1 + 1) kpA ecF (by decide) gA5 sA5 (.inl rfl) lw5 (by omega)
    have cB5 := cB3.low2 (g' := g + 1 + 1) lw5 ⟨Ne.symm hkcw, Ne.symm ka4, kwg⟩ ⟨kb3, Ne.symm kab, kb2⟩ ecF (by decide) (.inl rfl) (by omega)
    obtain ⟨lB, XB, gB, sB5, kpB⟩ := id cB5
    obtain ⟨nv, env⟩ : ∃ nv : Int, nv = ((L.length - (tchL (d.w.map keyI) L).length : Nat) : Int) := ⟨_, rfl⟩
    rw [← env]
    have r5 : hget h5 (ky F (lc2 + 19 + 1)) = some (mkRow [] 5) := (lw5 _ (by omega) (by omega) (by omega)).trans r1
    have hlow5 : Low F h h5 := hlow3.trans (lw5.low (by omega) (by omega) (by omega))
    have qw5 : rdAB (hget h5 b) (o + i * 14 + 13) 1 = some [wv] := by rw [hlow5 b hbk]; exact hp 13 1 (by decide)
    have hWV5 : LstI 0 F h5 ksW wv d.w := hWV.move ((EqI.refl _ _ h).call hlow5 (Nat.le_refl F))
    refine ⟨_, by simp only [put_mk, Nat.reduceLT, ↓reduceIte] <;> rfl, ?_, ?_, ?_⟩
    · first | (simp only [↓reduceIte, Fr.ev, readOp, rLd, oneCell_one, Nat.reduceEqDiff, loadA_w, loadW_s, decide_true, decide_false, Nat.reduceDiv, Nat.reduceMod, sz35, ag35, Tget_set, Nat.testBit_eq_decide_div_mod_eq, Nat.reducePow, addMade_nil, addMade_cons, mad1_f, readsLeft_nil, readsLeft_cons, rdl1_t, rdl1_f, readsOk_nil, readsOk_cons, rok1_s, Bool.and_self, sWV, qw5, r5] <;> rfl) | rfl
    · first | (simp only [decide_true, Nat.reduceDiv, Nat.reduceMod, Nat.testBit_eq_decide_div_mod_eq, Nat.reducePow, addMade_nil, addMade_cons, mad1_o, asideOk_nil, asideOk_cons, asd1_s, r5, r1] <;> rfl) | rfl
    repeat' (first | refine st ?_ | ((with_reducible apply (r_drawG (id := 29) (js := [(0, 0), (1, 0), (2, 0), (3, 0), (4, 12), (5, 28), (6, 60), (9, 0), (10, 0), (11, 0), (12, 3072), (13, 7168), (14, 15360), (7, 126), (8, 255), (15, 32767), (16, 65535)]))); (focus kernel_rfl); (focus kernel_rfl); (focus (exact sd1))) | ((with_reducible apply g_undef); (focus rfl); (focus (simp only [wantedA_none] <;> rfl)); (focus (exact sd6))))
    refine g_callC (S := SL) (f := 18) (s0 := ⟨h5, g + 1 + 1⟩) (by rfl) (by first | (simp only [wantedA_none]; done) | rfl) (by first | (simp only [withH_mk, Nat.testBit_eq_decide_div_mod_eq, Nat.reducePow, addMade_nil, addMade_cons, r5]; done) | (simp only [withH_mk, Nat.testBit_eq_decide_div_mod_eq, Nat.reducePow, addMade_nil, addMade_cons, r5] <;> rfl)) (by simp only [callOuts, callTo_s, target, evs, Fr.ev, Tget_set, Nat.reduceEqDiff, ↓reduceIte, List.nil_append, List.append_nil]; exact kc_miss rfl) ?_ ?_
    · exact touchBQ (show kw < ky (g + 1 + 1) 0 by omega) (by omega) (Ne.symm kb4) gB sB5 kpB (Nat.le_refl _) (fun A B q => outC q.1 ewF (by decide)) hWV5 (.inr (by omega)) (by omega) (by omega) (by omega) hsmL
    intro oo ho
    obtain ⟨l6, h6, F6, rfl, hF6, gB6, hk6, lk6⟩ := ho _ lB _ _ XB L d.w gB ⟨_, _, sB5⟩ ⟨_, _, kpB⟩ hWV5.p
    have hF6 : g + 1 + 1 + 1 ≤ F6 := hF6
    have lk6 : LowK kw (g + 1 + 1) h5 h6 := lk6
    rw [← env]
    have hF6g : ky (g + 1 + 1) 0 ≤ ky F6 0 := ky_mono (by omega)
    obtain ⟨k6, hk6a, sB6, hk6b⟩ : ∃ k6, (k6 = k2 ∨ ky (g + 1 + 1) 0 ≤ k6) ∧ LS false h6 k6 8 l6 ((kpZ (d.w.map keyI) XB L L.length).map (·.1)) ∧ k6 < ky F6 0 := by
      rcases hk6 with ⟨rfl, e2⟩ | ⟨k', s1, s2, s3⟩
      · rw [e2]
        exact ⟨k2, .inl rfl, sB5.move (lk6 k2 (by omega) kb4), by omega⟩
      · exact ⟨k', .inr s1, s3, s2⟩
    have cB6 := CI.touch (g' := F6) kpB ewF (by decide) gB6 sB6 hk6a (lk6.two) (by omega)
    have cA6 := ((cA5.low2 (g' := g + 1 + 1) (lk6.two (kb := kw)) ⟨hkcw, hkcw, by omega⟩ ⟨ka4, ka4, by omega⟩ ewF (by decide) (.inr rfl) (Nat.le_refl _)).other hk6a).up (show g + 1 + 1 ≤ F6 by omega)
    have r6 : hget h6 (ky F (lc2 + 19 + 1)) = some (mkRow [] 5) := (lk6 _ (by omega) (by omega)).trans r5
    have hlow6 : Low F h h6 := hlow5.trans fun i hi => lk6 i (by omega) (by omega)
    have qw6 : rdAB (hget h6 b) (o + i * 14 + 13) 1 = some [wv] := by rw [hlow6 b hbk]; exact hp 13 1 (by decide)
    refine ⟨_, by simp only [put_mk, Nat.reduceLT, ↓reduceIte] <;> rfl, ?_, ?_, ?_⟩
    · first | (simp only [decide_true, Nat.reduceDiv, Nat.reduceMod, Nat.testBit_eq_decide_div_mod_eq, Nat.reducePow, readsLeft_nil, readsLeft_cons, rdl1_t, readsOk_nil] <;> rfl) | rfl
    · first | (simp only [decide_true, Nat.reduceDiv, Nat.reduceMod, Nat.testBit_eq_decide_div_mod_eq, Nat.reducePow, addMade_nil, addMade_cons, mad1_o, asideOk_nil, asideOk_cons, asd1_s, r6, r5] <;> rfl) | rfl
    repeat' (first | refine st ?_ | ((with_reducible apply (r_drawG (id := 29) (js := [(0, 0), (1, 0), (2, 0), (3, 0), (4, 12), (5, 28), (6, 60), (9, 0), (10, 0), (11, 0), (12, 3072), (13, 7168), (14, 15360), (7, 126), (8, 255), (15, 32767), (16, 65535)]))); (focus kernel_rfl); (focus kernel_rfl); (focus (exact sd1))) | ((with_reducible apply g_end); (focus (simp only [List.length_cons, List.length_nil, Nat.add_assoc, Nat.reduceAdd, Nat.zero_add] <;> rfl)); simp only [withH_mk, addAll_nil, addAll_cons, withH_mk, mad1_o, addAll_nil, addAll_cons, r6]) | ((with_reducible apply g_undef); (focus rfl); (focus (simp only [wantedA_none] <;> rfl)); (focus (exact sd6))) | ((with_reducible apply g_pure); (focus rfl); (focus rfl); (focus (first | (simp only [wantedA_none] <;> rfl) | rfl)); (focus (simp only [↓reduceIte, Fr.ev, pureOp, pBin, binA, intOp_neq, Nat.reduceEqDiff, binA, bne_self_eq_false, Tget_set] <;> rfl)); (focus (exact sd6))))
    refine norm_at ⟨_, _, h6, F6, k, k6, y, z, tchL (d.w.map keyI) L, rfl, rfl, by omega, by omega, by omega, hlow6, cA6, cB6, ?_, Nat.le_trans (touch_len _ _) hLm, fun q hq => hsL q (tchL_mem hq), by omega, by omega, fun c hc hc2 => ?_, sd8, sd8, sd8, sd8⟩
    · refine ⟨ka1, by omega, ka3, ka4, ?_, hk6b, ?_, ?_, ?_⟩
      · rcases hk6a with rfl | h <;> omega
      · rcases hk6a with rfl | h <;> omega
      · rcases hk6a with rfl | h <;> omega
      · rcases hk6a with rfl | h
        · exact kab
        · omega
    · have hcF := ky_next F c hc2
      rw [lk6 _ (by omega) (by omega), lw5 _ (by omega) (by omega) (by omega), m1 _ (by rw [Ne, ky_inj]; omega), hget_hset, if_neg (by rw [ky_inj]; omega)]
      exact hclean c (by omega) hc2
  have e1 : (d.kind == 1) = false := beq_eq_false_iff_ne.2 k1'
  have e2' : (d.kind == 2) = false := beq_eq_false_iff_ne.2 k2'
  have e3 : (d.kind == 3) = false := beq_eq_false_iff_ne.2 k3'
  repeat' (first | refine st ?_ | ((with_reducible apply r_drawL); (focus kernel_rfl); (focus kernel_rfl); (focus (exact sd1))) | ((with_reducible (first | apply r_any | apply r_cond)); focus (simp only [↓reduceIte, clsOf, Fr.ev, ofV, ofA, ofS, put_mk, pureOp, pBin, binA, intOp_eql, Nat.reduceLT, Nat.reduceEqDiff, binA, stepOp, stV_mk, stepAny, wantedA_none, Tget_set, e1, e2', e3] <;> rfl)))
  exact norm_at ⟨_, _, h1, g, k, k2, y, z, L, rfl, rfl, by omega, by omega, hg, hlow, cA, cB, ⟨ka1, ka2, ka3, ka4, kb1, kb2, kb3, kb4, kab⟩, hLm, hsL, by omega, by omega, fun c hc => hclean c (by omega), sd8, sd8, sd8, sd8⟩

end Go.Proofs.YtmnhaoadhkdinaaGreatDoor

