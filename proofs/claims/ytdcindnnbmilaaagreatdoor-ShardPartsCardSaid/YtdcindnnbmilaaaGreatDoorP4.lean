/- A part of the proof of the law ShardParts. CONDITIONS: those that each theorem names. -/
import Derived.Test.YtdcindnnbmilaaaGreatDoorP3
namespace Go.Proofs.YtdcindnnbmilaaaGreatDoor
open Go Go.Ai
set_option maxRecDepth 100000

theorem by9 : bytesT Tryz.prog 9 = some 16 := by kernel_rfl
theorem zo9 : zeroOk Tryz.prog 9 1 16 = true := by kernel_rfl
theorem zeroT9 : zeroT Tryz.prog 9 = some (.str []) := by kernel_rfl
theorem sl_nil : sliceA Tryz.prog 22 .nils none (some (.int .i64 0)) none = some .nils := by
  simp only [sliceA, sliceD, Tryz.underlying22, sz9]; rfl
theorem sl_zero (id N : Nat) : sliceA Tryz.prog 22 (.slice id 0 0 N none) none (some (.int .i64 0)) none = some (.slice id 0 0 0 none) := by
  simp only [sliceA, sliceD, Tryz.underlying22, sz9]
  have h : boundsA N N none (some (.int .i64 0)) none = some (0, 0, none) := by
    simp only [boundsA]; rfl
  rw [h]; rfl
theorem appZ {key N : Nat} {s : St} (hp : 0 < N) (hN : N ≤ 1000) : appendA Tryz.prog 22 3 key s .nils (.int .i64 (N : Int)) = some (.slice key 0 0 N none, s.upd key (mkRow (repl [AV.str []] N) 1)) := by
  obtain ⟨n, rfl⟩ : ∃ k, N = k + 1 := ⟨N - 1, by omega⟩
  have hble : Nat.ble ((2 * (n + 1) + 1024) * 16) 281474976710656 = true := by rw [Nat.ble_eq]; omega
  show appendA Tryz.prog 22 3 key s .nils (.int .i64 (.ofNat (n + 1))) = _
  simp only [appendA, Tryz.underlying22, sz9, by9, Tryz.underlying3, appendZ, zeroT9, appendZ2, zo9, hble, appendZ3, AV.cells, rowOf_mk]
theorem repl_len (n : Nat) : (repl [AV.str []] n).length = n := by
  induction n with
  | zero => rfl
  | succ n ih => simp [repl, ih]
theorem repl_flat (n : Nat) : ∀ a ∈ repl [AV.str []] n, Flatv a := by
  induction n with
  | zero => intro a ha; cases ha
  | succ n ih =>
    intro a ha
    simp only [repl, List.cons_append, List.nil_append, List.mem_cons] at ha
    rcases ha with rfl | ha
    · exact flat_str _
    · exact ih a ha

theorem grow42 (h : Heap) (F : Nat) (N : Nat) (hp : 0 < N) (hN : N ≤ 1000) : Snd Tryz.prog [] 42 [.nils, .int .i64 N] ⟨h, F⟩ [.val (.slice (ky F 0) 0 0 0 none) ⟨hset h (ky F 0) (mkRow (repl [AV.str []] N) 1), F + 1⟩] := by
  refine snd_block (repl_flat N) fun hw => ?_
  have hx1 : decide ((N : Int) < 0) = false := decide_eq_false (by omega)
  have hx2 : intOp Tryz.prog .sub 3 .i64 .i64 0 0 = some (.int .i64 0) := intOp_sub (by unfold inR; omega)
  have hx3 : intOp Tryz.prog .sub 3 .i64 .i64 (N : Int) 0 = some (.int .i64 (N : Int)) := by rw [intOp_sub (by unfold inR; omega), Int.sub_zero]
  have hx4 : decide (0 < (N : Int)) = true := decide_eq_true (by omega)
  refine sndQ_body (K := K0) kok0 mixed noNum (m := 0) Tryz.func42 ?_
  generalize hQ : retQ _ _ _ _ _ _ = Q0
  refine body_go (c := Tryz.f42.body.getD .skip) (n := 27) rfl rfl (by simp only [↓reduceIte, T.setList, T.set_e, T.set_n, Nat.reduceDiv, Nat.reduceMod, Nat.reduceEqDiff, Nat.zero_add] <;> rfl) ?_
  simp only [Tryz.f42, Option.getD_some]
  repeat' (first
  | with_reducible refine r_seq ?_
  | with_reducible refine r_next ?_
  | with_reducible refine r_block ?_
  | with_reducible refine r_seq_exit ?_
  | with_reducible refine r_seq_ret ?_
  | with_reducible refine r_blk_n ?_
  | with_reducible refine r_blk_ret ?_
  | with_reducible refine r_blk_hit ?_
  | with_reducible refine r_blk_miss rfl ?_
  | with_reducible refine r_skip ?_
  | with_reducible refine r_exit ?_
  | with_reducible refine r_ret ?_
  | with_reducible refine r_rq_exit ?_
  | with_reducible refine r_rq_ret ?_
  | ((with_reducible apply r_regA); (focus (simp only [List.append_eq, List.cons_append, List.nil_append] <;> rfl)); (focus (first | exact Nat.le_of_ble_eq_true rfl | (simp only [List.length_cons, List.length_nil]; omega))))
  | ((with_reducible refine r_reg (List.toList_toArray) ?_ ?_); focus (first | exact Nat.le_of_ble_eq_true rfl | (simp only [List.length_cons, List.length_nil]; omega)))
  | ((with_reducible apply r_end); focus (simp only [Nat.reduceAdd, Nat.zero_add] <;> rfl))
  | ((with_reducible (first | apply r_any | apply r_cond)); focus (simp only [↓reduceIte, clsOf, clsCall, Fr.ev, ofV, ofA, ofS, put_mk, upd_mk, keyOf_mk, pureOp, readOp, pBin, binA, intOp_lss, intOp_gtr, List.getElem?_cons_zero, Nat.zero_add, Nat.reduceAdd, Nat.reduceLT, Nat.reduceEqDiff, Nat.reduceSub, heavyCall, binA, stepOp, stHeavy, stV_mk, stO_mk, T.get_n, T.set_n, T.set_e, Nat.reduceDiv, Nat.reduceMod, ofNat_z, Tryz.underlying22, stepAny, wantedA_none, rCall, rLen, hx1, hx2, hx3, hx4, rCap, capA, rSl, pSlice, evO, sl_nil, sl_zero, appZ hp hN, aBuiltin, aApp, aApp2, outOf] <;> rfl))
  | (with_reducible rw [ifQ_t])
  | (with_reducible rw [ifQ_f])
  | (with_reducible refine ifQ_intro ?_ ?_ <;> intro hb))
  subst hQ
  refine ret_back (by simp only [Tryz.results42, resultOf, resultsA, resultA, List.toList_toArray, Fr.ev, T.get_n, Nat.reduceDiv, Nat.reduceMod, Nat.reduceSub, Nat.reduceEqDiff, ↓reduceIte] <;> rfl) ⟨_, _, _, rfl, ?_, ky_le _ _, ?_⟩
  · repeat (first | exact SameH.refl _ | exact hS | refine SameH.hset hw ?_ (ky_le _ _))
  · exact hget_same _ _ _
theorem grow0 (h : Heap) (F : Nat) : Snd Tryz.prog [] 42 [.nils, .int .i64 ((0 : Nat) : Int)] ⟨h, F⟩ [.val .nils ⟨h, F⟩] := by
  refine snd_val (by simp [Kin]) fun hw => ?_
  have hx1 : decide (((0 : Nat) : Int) < 0) = false := decide_eq_false (by omega)
  have hx2 : intOp Tryz.prog .sub 3 .i64 .i64 0 0 = some (.int .i64 0) := intOp_sub (by unfold inR; omega)
  have hx3 : intOp Tryz.prog .sub 3 .i64 .i64 ((0 : Nat) : Int) 0 = some (.int .i64 ((0 : Nat) : Int)) := by rw [intOp_sub (by unfold inR; omega), Int.sub_zero]
  have hx4 : decide (0 < ((0 : Nat) : Int)) = false := decide_eq_false (by omega)
  refine sndQ_body (K := K0) kok0 mixed noNum (m := 0) Tryz.func42 ?_
  generalize hQ : retQ _ _ _ _ _ _ = Q0
  refine body_go (c := Tryz.f42.body.getD .skip) (n := 27) rfl rfl (by simp only [↓reduceIte, T.setList, T.set_e, T.set_n, Nat.reduceDiv, Nat.reduceMod, Nat.reduceEqDiff, Nat.zero_add] <;> rfl) ?_
  simp only [Tryz.f42, Option.getD_some]
  repeat' (first
  | with_reducible refine r_seq ?_
  | with_reducible refine r_next ?_
  | with_reducible refine r_block ?_
  | with_reducible refine r_seq_exit ?_
  | with_reducible refine r_seq_ret ?_
  | with_reducible refine r_blk_n ?_
  | with_reducible refine r_blk_ret ?_
  | with_reducible refine r_blk_hit ?_
  | with_reducible refine r_blk_miss rfl ?_
  | with_reducible refine r_skip ?_
  | with_reducible refine r_exit ?_
  | with_reducible refine r_ret ?_
  | with_reducible refine r_rq_exit ?_
  | with_reducible refine r_rq_ret ?_
  | ((with_reducible apply r_regA); (focus (simp only [List.append_eq, List.cons_append, List.nil_append] <;> rfl)); (focus (first | exact Nat.le_of_ble_eq_true rfl | (simp only [List.length_cons, List.length_nil]; omega))))
  | ((with_reducible refine r_reg (List.toList_toArray) ?_ ?_); focus (first | exact Nat.le_of_ble_eq_true rfl | (simp only [List.length_cons, List.length_nil]; omega)))
  | ((with_reducible apply r_end); focus (simp only [Nat.reduceAdd, Nat.zero_add] <;> rfl))
  | ((with_reducible (first | apply r_any | apply r_cond)); focus (simp only [↓reduceIte, clsOf, clsCall, Fr.ev, ofV, ofA, ofS, put_mk, pureOp, readOp, pBin, binA, intOp_lss, intOp_gtr, List.getElem?_cons_zero, Nat.reduceLT, Nat.reduceEqDiff, Nat.reduceSub, binA, stepOp, stV_mk, T.get_n, T.set_n, T.set_e, Nat.reduceDiv, Nat.reduceMod, ofNat_z, Tryz.underlying22, stepAny, wantedA_none, rCall, rLen, hx1, hx2, hx3, hx4, rCap, capA] <;> rfl))
  | (with_reducible rw [ifQ_t])
  | (with_reducible rw [ifQ_f])
  | (with_reducible refine ifQ_intro ?_ ?_ <;> intro hb))
  subst hQ
  refine ret_back (by simp only [Tryz.results42, resultOf, resultsA, resultA, List.toList_toArray, Fr.ev, T.get_n, Nat.reduceDiv, Nat.reduceMod, Nat.reduceSub, Nat.reduceEqDiff, ↓reduceIte] <;> rfl) ⟨_, rfl, ?_⟩
  repeat (first | exact Same.base _ _ _ | exact Same.refl _ | refine Same.hset hw ?_ (ky_le _ _))
noncomputable def KGf : FuncId → List AV → St → Outs := fun f args z => match f, args with
  | 42, [.nils, .int .i64 x] => match natOf (.int .i64 x) with
    | some N => open Classical in if 0 < N ∧ N ≤ 1000 then some [.val (.slice (nk z.fc) 0 0 0 none) ⟨hset z.h (nk z.fc) (mkRow (repl [AV.str []] N) 1), z.fc + 1⟩] else if N = 0 then some [.val .nils z] else none
    | none => none
  | _, _ => none
noncomputable def KG : CallF := ⟨KGf, fun _ _ _ => none⟩
theorem kg_fn (f : FuncId) (args : List AV) (s : St) : CallF.fn KG f args s = KGf f args s := rfl
theorem natOf_p {k : IntKind} {x : Int} {N : Nat} (h : natOf (.int k x) = some N) : x = N := by
  cases x with
  | ofNat n => cases h; rfl
  | negSucc n => cases h
theorem kg_ok : KOK Tryz.prog [] KG := KOK.table fun f args s outs h => by
  obtain ⟨h0, F⟩ := s
  unfold KGf at h
  split at h
  · split at h
    · rename_i hN
      have := natOf_p hN
      subst this
      split at h
      · rename_i hc; cases h; rw [nk_eq]; exact grow42 _ _ _ hc.1 hc.2
      · split at h
        · rename_i h1 h2
          subst h2
          cases h; exact grow0 _ _
        · cases h
    · cases h
  · cases h


end Go.Proofs.YtdcindnnbmilaaaGreatDoor

