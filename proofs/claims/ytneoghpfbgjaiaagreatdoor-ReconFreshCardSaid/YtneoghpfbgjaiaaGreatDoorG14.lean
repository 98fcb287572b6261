/- A part of the proof of the law ReconFresh. CONDITIONS: those that each theorem names. -/
import Derived.Test.YtneoghpfbgjaiaaGreatDoorG13
namespace Go.Proofs.YtneoghpfbgjaiaaGreatDoor
open Go Go.Ai
set_option maxRecDepth 100000

theorem closure77 (h : Heap) (F : Nat) (s' key : List UInt8) (d : Bool) (k n : Int) (t : List UInt8) (kx : Nat) (hr : rdAB (hget h kx) 0 1 = some [.str key]) : Snd Tryz.prog [] 77 [.agg [.str s', .bool d, .int .i64 k, .int .i64 n, .str t], .ptr kx 0] ⟨h, F⟩ [.val (.bool (dec (s' = key))) ⟨h, F⟩] := by
  refine snd_val (by simp [Kin]) fun hw => ?_
  have hlo := rd_low hw hr
  refine sndQ_body (K := K0) kok0 mixed noNum (m := 0) Tryz.func77 ?_
  generalize hQ : retQ _ _ _ _ _ _ = Q0
  refine body_go (c := Tryz.f77.body.getD .skip) (n := 9) rfl rfl (by simp only [↓reduceIte, T.setList, T.set_e, T.set_n, Nat.reduceDiv, Nat.reduceMod, Nat.reduceEqDiff, Nat.zero_add] <;> rfl) ?_
  simp only [Tryz.f77, Option.getD_some]
  repeat' (first
  | with_reducible refine r_seq ?_
  | with_reducible refine r_next ?_
  | with_reducible refine r_block ?_
  | with_reducible refine r_seq_exit ?_
  | with_reducible refine r_seq_ret ?_
  | with_reducible refine r_blk_n ?_
  | with_reducible refine r_blk_ret ?_
  | with_reducible refine r_blk_hit ?_
  | with_reducible refine r_blk_miss rfl ?_
  | with_reducible refine r_skip ?_
  | with_reducible refine r_exit ?_
  | with_reducible refine r_ret ?_
  | with_reducible refine r_rq_exit ?_
  | with_reducible refine r_rq_ret ?_
  | ((with_reducible apply r_regA); (focus (simp only [List.append_eq, List.cons_append, List.nil_append] <;> rfl)); (focus (first | exact Nat.le_of_ble_eq_true rfl | (simp only [List.length_cons, List.length_nil]; omega))))
  | ((with_reducible refine r_reg (List.toList_toArray) ?_ ?_); focus (first | exact Nat.le_of_ble_eq_true rfl | (simp only [List.length_cons, List.length_nil]; omega)))
  | ((with_reducible apply r_end); focus (simp only [Nat.reduceAdd, Nat.zero_add] <;> rfl))
  | ((with_reducible (first | apply r_any | apply r_cond)); focus (simp only [↓reduceIte, clsOf, newBlk, allocOp, Fr.ev, ofV, ofA, ofS, nVar, AV.cells, rowOf_mk, put_mk, upd_mk, keyOf_mk, pureOp, readOp, pFA, pFA1, pFA2, rLd, rdAB_row, oneCell_one, hget_same, hget_hset_ite, pBin, binA, List.length_cons, List.length_nil, List.getElem?_cons_zero, List.drop_zero, List.take_succ_cons, List.take_zero, Nat.zero_add, Nat.add_zero, Nat.reduceAdd, Nat.reduceLT, Nat.reduceLeDiff, Nat.reduceEqDiff, Nat.reduceSub, Nat.add_eq, loadA_w, loadW_s, binA, stepOp, stV_mk, stB_mk, T.get_n, T.set_n, T.set_e, Nat.reduceDiv, Nat.reduceMod, sz9, ag9, Tryz.underlying117, Tryz.underlying119, stepAny, wantedA_none, strOp, hr, ky_old hlo] <;> rfl))
  | (with_reducible rw [ifQ_t])
  | (with_reducible rw [ifQ_f])
  | (with_reducible refine ifQ_intro ?_ ?_ <;> intro hb))
  subst hQ
  refine ret_back (by simp only [Tryz.results77, resultOf, resultsA, resultA, List.toList_toArray, Fr.ev, T.get_n, Nat.reduceDiv, Nat.reduceMod, Nat.reduceEqDiff, ↓reduceIte] <;> rfl) ⟨_, out_b ?_, ?_⟩
  · simp
  repeat (first | exact Same.base _ _ _ | exact Same.refl _ | refine Same.hset hw ?_ (ky_le _ _))

noncomputable def idxK (k : List UInt8) : List (List AV) → Nat → Int
  | [], _ => -1
  | l :: L, n => open Classical in if keyIs k l then (n : Int) else idxK k L (n + 1)
theorem idxK_at {k : List UInt8} : ∀ {L : List (List AV)} {n i : Nat} (hi : i < L.length), (∀ j (hj : j < i), ¬ keyIs k (L[j]'(Nat.lt_trans hj hi))) → keyIs k L[i] → idxK k L n = ((n + i : Nat) : Int)
  | [], _, _, hi, _, _ => by simp at hi
  | l :: L, n, 0, _, _, h => by
    have h : keyIs k l := h
    unfold idxK; rw [if_pos h]; rfl
  | l :: L, n, i + 1, hi, h, hk => by
    have h0 : ¬ keyIs k l := h 0 (by omega)
    unfold idxK
    rw [if_neg h0, idxK_at (L := L) (i := i) (by simpa using hi) (fun j hj => by have := h (j + 1) (by omega); simpa using this) (by simpa using hk)]
    congr 1; omega
theorem idxK_miss {k : List UInt8} : ∀ {L : List (List AV)} {n : Nat}, (∀ l ∈ L, ¬ keyIs k l) → idxK k L n = -1
  | [], _, _ => rfl
  | l :: L, n, h => by
    unfold idxK
    rw [if_neg (h l List.mem_cons_self)]
    exact idxK_miss fun x hx => h x (List.mem_cons_of_mem _ hx)
theorem idxK_iff {k : List UInt8} : ∀ {L : List (List AV)} {n : Nat}, 0 ≤ idxK k L n ↔ ∃ l ∈ L, keyIs k l
  | [], _ => by simp [idxK]
  | l :: L, n => by
    unfold idxK
    by_cases h : keyIs k l
    · rw [if_pos h]; constructor
      · intro _; exact ⟨l, List.mem_cons_self, h⟩
      · intro _; omega
    · rw [if_neg h, idxK_iff (L := L)]; simp [h]

noncomputable def K7f : FuncId → List AV → St → Outs := fun f args s => match f, args with
  | 77, [.agg [.str s1, .bool _, .int .i64 _, .int .i64 _, .str _], .ptr kx 0] => match rdAB (hget s.h kx) 0 1 with
    | some [.str key] => some [.val (.bool (dec (s1 = key))) s]
    | _ => none
  | f, args => K6f f args s
noncomputable def K7 : CallF := ⟨K7f, fun _ _ _ => none⟩
theorem k7_fn (f : FuncId) (args : List AV) (s : St) : CallF.fn K7 f args s = K7f f args s := rfl
theorem k7_ok : KOK Tryz.prog [] K7 := KOK.table fun f args s outs h => by
  obtain ⟨h0, F⟩ := s
  unfold K7f at h
  split at h
  · split at h
    · rename_i hr; cases h; exact closure77 _ _ _ _ _ _ _ _ _ hr
    · cases h
  · exact k6_ok.fn _ _ _ _ h

theorem index121 (h : Heap) (F : Nat) (a : AV) (L : List (List AV)) (hL : LstP h ksW a L) (kx : Nat) (key : List UInt8) (hk0 : rdAB (hget h kx) 0 1 = some [.str key]) : Snd Tryz.prog [] 121 [a, .fn (.func 77) [] [.ptr kx 0]] ⟨h, F⟩ [.val (.int .i64 (idxK key L 0)) ⟨h, F⟩] := by
  have mxl : maxLen = 9223372036854775807 := by decide
  refine snd_val (by simp [Kin]) fun hw => ?_
  have hs := hL.len
  refine sndQ_body (K := K7) k7_ok mixed noNum (m := L.length + 1) Tryz.func121 ?_
  generalize hQ : retQ _ _ _ _ _ _ = Q0
  refine body_go (c := Tryz.f121.body.getD .skip) (n := 19) rfl rfl (by simp only [↓reduceIte, T.setList, T.set_e, T.set_n, Nat.reduceDiv, Nat.reduceMod, Nat.reduceEqDiff, Nat.zero_add] <;> rfl) ?_
  simp only [Tryz.f121, Option.getD_some]
  repeat' (first
  | with_reducible refine r_seq ?_
  | with_reducible refine r_next ?_
  | with_reducible refine r_block ?_
  | with_reducible refine r_seq_exit ?_
  | with_reducible refine r_seq_ret ?_
  | with_reducible refine r_blk_n ?_
  | with_reducible refine r_blk_ret ?_
  | with_reducible refine r_blk_hit ?_
  | with_reducible refine r_blk_miss rfl ?_
  | with_reducible refine r_skip ?_
  | with_reducible refine r_exit ?_
  | with_reducible refine r_ret ?_
  | with_reducible refine r_rq_exit ?_
  | with_reducible refine r_rq_ret ?_
  | ((with_reducible apply r_regA); (focus (simp only [List.append_eq, List.cons_append, List.nil_append] <;> rfl)); (focus (first | exact Nat.le_of_ble_eq_true rfl | (simp only [List.length_cons, List.length_nil]; omega))))
  | ((with_reducible refine r_reg (List.toList_toArray) ?_ ?_); focus (first | exact Nat.le_of_ble_eq_true rfl | (simp only [List.length_cons, List.length_nil]; omega)))
  | ((with_reducible apply r_end); focus (simp only [Nat.reduceAdd, Nat.zero_add] <;> rfl))
  | ((with_reducible (first | apply r_any | apply r_cond)); focus (simp only [↓reduceIte, clsOf, clsCall, Fr.ev, ofV, ofA, ofS, put_mk, pureOp, readOp, List.getElem?_cons_zero, Nat.reduceLT, Nat.reduceEqDiff, Nat.reduceSub, stepOp, stV_mk, T.get_n, T.set_n, T.set_e, Nat.reduceDiv, Nat.reduceMod, stepAny, wantedA_none, rCall, rLen, rLen1_L Tryz.underlying56 hL] <;> rfl))
  | (with_reducible rw [ifQ_t])
  | (with_reducible rw [ifQ_f])
  | (with_reducible refine ifQ_intro ?_ ?_ <;> intro hb))
  · refine r_loop (I := fun nn fr s1 => ∃ lc tt h1 i, fr = ⟨F, lc, 19, tt, [], .no⟩ ∧ s1 = ⟨h1, F + 1⟩ ∧ i ≤ L.length ∧ nn = L.length - i ∧ 2 ≤ lc ∧ lc + nn * 1000 ≤ 100000000000000000000000000 ∧ SameH h h1 ∧ tt.get 0 = some (a) ∧ tt.get 1 = some (.fn (.func 77) [] [.ptr kx 0]) ∧ tt.get 7 = some (.int .i64 L.length) ∧ tt.get 8 = some (.int .i64 i) ∧ (∀ j (hj : j < i) (hjl : j < L.length), ¬ keyIs key L[j])) (n := L.length) ?_ ?_ ?_
    · omega
    · exact ⟨_, _, _, 0, rfl, rfl, Nat.zero_le _, (Nat.sub_zero _).symm, by first | omega | exact Nat.le_of_ble_eq_true rfl, by omega, (by repeat (first | exact SameH.refl _ | refine SameH.hset hw ?_ (ky_le _ _))), (by first | rfl | (simp only [Nat.reduceLT, Tget_set, T.get_n, T.get_e, Nat.reduceEqDiff, Nat.reduceDiv, Nat.reduceMod, Nat.reduceSub, ↓reduceIte, if_true, if_false, hget_same, hget_hset_ite, ky_inj, Nat.reduceAdd, Nat.zero_add, rLen1_L Tryz.underlying56 hL] <;> rfl)), (by first | rfl | (simp only [Nat.reduceLT, Tget_set, T.get_n, T.get_e, Nat.reduceEqDiff, Nat.reduceDiv, Nat.reduceMod, Nat.reduceSub, ↓reduceIte, if_true, if_false, hget_same, hget_hset_ite, ky_inj, Nat.reduceAdd, Nat.zero_add, rLen1_L Tryz.underlying56 hL] <;> rfl)), (by first | rfl | (simp only [Nat.reduceLT, Tget_set, T.get_n, T.get_e, Nat.reduceEqDiff, Nat.reduceDiv, Nat.reduceMod, Nat.reduceSub, ↓reduceIte, if_true, if_false, hget_same, hget_hset_ite, ky_inj, Nat.reduceAdd, Nat.zero_add, rLen1_L Tryz.underlying56 hL] <;> rfl)), (by first | rfl | (simp only [Nat.reduceLT, Tget_set, T.get_n, T.get_e, Nat.reduceEqDiff, Nat.reduceDiv, Nat.reduceMod, Nat.reduceSub, ↓reduceIte, if_true, if_false, hget_same, hget_hset_ite, ky_inj, Nat.reduceAdd, Nat.zero_add, rLen1_L Tryz.underlying56 hL] <;> rfl)), fun j hj => absurd hj (Nat.not_lt_zero _)⟩
    rintro nn fr s1 ⟨lc, tt, h1, i, rfl, rfl, hi, rfl, hl0, hlc, hS, ht0, ht1, ht7, ht8, hI⟩
    by_cases hil : i < L.length
    · obtain ⟨b, o, eo, cap, s0, d0, k0, n0, t0, rfl, hb0, hLi, r0, r1⟩ := write_at hw hL hS hil
      have hkx : rdAB (hget h1 kx) 0 1 = some [.str key] := hS.rd hk0
      repeat' (first
      | with_reducible refine r_seq ?_
      | with_reducible refine r_next ?_
      | with_reducible refine r_block ?_
      | with_reducible refine r_seq_exit ?_
      | with_reducible refine r_seq_ret ?_
      | with_reducible refine r_blk_n ?_
      | with_reducible refine r_blk_ret ?_
      | with_reducible refine r_blk_hit ?_
      | with_reducible refine r_blk_miss rfl ?_
      | with_reducible refine r_skip ?_
      | with_reducible refine r_exit ?_
      | with_reducible refine r_ret ?_
      | with_reducible refine r_rq_exit ?_
      | with_reducible refine r_rq_ret ?_
      | ((with_reducible apply r_regA); (focus (simp only [List.append_eq, List.cons_append, List.nil_append] <;> rfl)); (focus (first | exact Nat.le_of_ble_eq_true rfl | (simp only [List.length_cons, List.length_nil]; omega))))
      | ((with_reducible refine r_reg (List.toList_toArray) ?_ ?_); focus (first | exact Nat.le_of_ble_eq_true rfl | (simp only [List.length_cons, List.length_nil]; omega)))
      | ((with_reducible apply r_end); focus (simp only [Nat.add_assoc, Nat.reduceAdd, Nat.zero_add] <;> rfl))
      | ((with_reducible (first | apply r_any | apply r_cond)); focus (simp only [↓reduceIte, clsOf, clsCall, Fr.ev, evs, ofV, ofA, ofS, put_mk, pureOp, readOp, rLd, someAgg_s, pBin, binA, intOp_lss, Nat.reduceLT, Nat.reduceEqDiff, loadA_w, loadW_a, callTo_s, heavyCall, target, List.nil_append, binA, stepOp, stHeavy, stV_mk, stO_mk, sz119, ag119, stepAny, wantedA_none, K7f, k7_fn, List.cons_append, Tget_set, ht0, ht1, ht7, ht8, lt_t hil, pIA_s Tryz.underlying56 sz119 hil, r0, intOp_add (inR_succ hil hs), hkx] <;> rfl))
      | (with_reducible rw [ifQ_t])
      | (with_reducible rw [ifQ_f])
      | (with_reducible refine ifQ_intro ?_ ?_ <;> intro hb))
      · have hk : s0 = key := dec_iff.1 hb
        subst hQ
        refine ret_back (by simp only [Tryz.results121, resultOf, resultsA, resultA, List.toList_toArray, Fr.ev, Tget_set, ↓reduceIte] <;> rfl) ⟨_, out_eq ?_, ?_⟩
        · rw [idxK_at hil (fun j hj => hI j hj (by omega)) (by rw [hLi]; exact (keyIs_mk _ _ _).2 hk), Nat.zero_add]
        repeat (first | exact Same.base _ _ _ | exact hS | refine Same.hset hw ?_ (ky_le _ _))
      · have hk : ¬ s0 = key := fun e => by rw [dec_t e] at hb; cases hb
        refine r_rq_n (k := L.length - (i + 1)) (by omega) ⟨_, _, _, i + 1, rfl, rfl, by omega, rfl, by omega, by omega, (by repeat (first | exact hS | refine SameH.hset hw ?_ (ky_le _ _))), (by simp only [Tget_set, Nat.reduceEqDiff, ↓reduceIte, Tget_set, ht0] <;> rfl), (by simp only [Tget_set, Nat.reduceEqDiff, ↓reduceIte, Tget_set, ht1] <;> rfl), (by simp only [Tget_set, Nat.reduceEqDiff, ↓reduceIte, Tget_set, ht7] <;> rfl), (by simp only [Tget_set, ↓reduceIte, Tget_set] <;> rfl), fun j hj hjl => by rcases Nat.lt_or_ge j i with hji | hji; exact hI j hji hjl; obtain rfl : j = i := (by omega); rw [hLi]; exact fun h => hk ((keyIs_mk _ _ _).1 h)⟩
    · have hend : i = L.length := by omega
      repeat' (first
      | with_reducible refine r_seq ?_
      | with_reducible refine r_next ?_
      | with_reducible refine r_block ?_
      | with_reducible refine r_seq_exit ?_
      | with_reducible refine r_seq_ret ?_
      | with_reducible refine r_blk_n ?_
      | with_reducible refine r_blk_ret ?_
      | with_reducible refine r_blk_hit ?_
      | with_reducible refine r_blk_miss rfl ?_
      | with_reducible refine r_skip ?_
      | with_reducible refine r_exit ?_
      | with_reducible refine r_ret ?_
      | with_reducible refine r_rq_exit ?_
      | with_reducible refine r_rq_ret ?_
      | ((with_reducible apply r_regA); (focus (simp only [List.append_eq, List.cons_append, List.nil_append] <;> rfl)); (focus (first | exact Nat.le_of_ble_eq_true rfl | (simp only [List.length_cons, List.length_nil]; omega))))
      | ((with_reducible refine r_reg (List.toList_toArray) ?_ ?_); focus (first | exact Nat.le_of_ble_eq_true rfl | (simp only [List.length_cons, List.length_nil]; omega)))
      | ((with_reducible apply r_end); focus (simp only [Nat.add_assoc, Nat.reduceAdd, Nat.zero_add] <;> rfl))
      | ((with_reducible (first | apply r_any | apply r_cond)); focus (simp only [↓reduceIte, clsOf, Fr.ev, ofV, ofA, ofS, put_mk, pureOp, pBin, binA, intOp_lss, Nat.reduceLT, binA, Int.reduceNeg, stepOp, stV_mk, stepAny, wantedA_none, Tget_set, ht7, ht8, lt_f hil] <;> rfl))
      | (with_reducible rw [ifQ_t])
      | (with_reducible rw [ifQ_f])
      | (with_reducible refine ifQ_intro ?_ ?_ <;> intro hb))
      · subst hQ
        refine ret_back (by simp only [Tryz.results121, resultOf, resultsA, resultA, List.toList_toArray, Fr.ev, Tget_set, ↓reduceIte] <;> rfl) ⟨_, out_eq ?_, ?_⟩
        · rw [idxK_miss (fun l hl => by obtain ⟨j, hj, rfl⟩ := List.getElem_of_mem hl; exact hI j (by omega) hj)]
        repeat (first | exact Same.base _ _ _ | exact hS | refine Same.hset hw ?_ (ky_le _ _))

noncomputable def K8f : FuncId → List AV → St → Outs := fun f args s => match f, args with
  | 121, [a, .fn (.func 77) [] [.ptr kx 0]] => match lstOf s.h ksW a, rdAB (hget s.h kx) 0 1 with
    | some L, some [.str key] => some [.val (.int .i64 (idxK key L 0)) s]
    | _, _ => none
  | f, args => K7f f args s
noncomputable def K8 : CallF := ⟨K8f, fun _ _ _ => none⟩
theorem k8_fn (f : FuncId) (args : List AV) (s : St) : CallF.fn K8 f args s = K8f f args s := rfl
theorem k8_ok : KOK Tryz.prog [] K8 := KOK.table fun f args s outs h => by
  obtain ⟨h0, F⟩ := s
  unfold K8f at h
  split at h
  · split at h
    · rename_i h1 h2; cases h; exact index121 _ _ _ _ (lstOf_p h1) _ _ h2
    · cases h
  · exact k7_ok.fn _ _ _ _ h

def hasP (key : List UInt8) (L : List (List AV)) : Prop := ∃ l ∈ L, keyIs key l
theorem contains76 (h : Heap) (F : Nat) (a : AV) (L : List (List AV)) (hL : LstP h ksW a L) (kx : Nat) (key : List UInt8) (hk0 : rdAB (hget h kx) 0 1 = some [.str key]) : Snd Tryz.prog [] 76 [a, .fn (.func 77) [] [.ptr kx 0]] ⟨h, F⟩ [.val (.bool (dec (hasP key L))) ⟨h, F⟩] := by
  refine snd_val (by simp [Kin]) fun hw => ?_
  refine sndQ_body (K := K8) k8_ok mixed noNum (m := 0) Tryz.func76 ?_
  generalize hQ : retQ _ _ _ _ _ _ = Q0
  refine body_go (c := Tryz.f76.body.getD .skip) (n := 9) rfl rfl (by simp only [↓reduceIte, T.setList, T.set_e, T.set_n, Nat.reduceDiv, Nat.reduceMod, Nat.reduceEqDiff, Nat.zero_add] <;> rfl) ?_
  simp only [Tryz.f76, Option.getD_some]
  repeat' (first
  | with_reducible refine r_seq ?_
  | with_reducible refine r_next ?_
  | with_reducible refine r_block ?_
  | with_reducible refine r_seq_exit ?_
  | with_reducible refine r_seq_ret ?_
  | with_reducible refine r_blk_n ?_
  | with_reducible refine r_blk_ret ?_
  | with_reducible refine r_blk_hit ?_
  | with_reducible refine r_blk_miss rfl ?_
  | with_reducible refine r_skip ?_
  | with_reducible refine r_exit ?_
  | with_reducible refine r_ret ?_
  | with_reducible refine r_rq_exit ?_
  | with_reducible refine r_rq_ret ?_
  | ((with_reducible apply r_regA); (focus (simp only [List.append_eq, List.cons_append, List.nil_append] <;> rfl)); (focus (first | exact Nat.le_of_ble_eq_true rfl | (simp only [List.length_cons, List.length_nil]; omega))))
  | ((with_reducible refine r_reg (List.toList_toArray) ?_ ?_); focus (first | exact Nat.le_of_ble_eq_true rfl | (simp only [List.length_cons, List.length_nil]; omega)))
  | ((with_reducible apply r_end); focus (simp only [Nat.reduceAdd, Nat.zero_add] <;> rfl))
  | ((with_reducible (first | apply r_any | apply r_cond)); focus (simp only [↓reduceIte, clsOf, clsCall, Fr.ev, evs, ofV, ofA, ofS, put_mk, pureOp, pBin, binA, intOp_geq, Nat.reduceLT, Nat.reduceEqDiff, Nat.reduceSub, callTo_s, heavyCall, target, List.nil_append, List.append_nil, binA, stepOp, stHeavy, stV_mk, stO_mk, T.get_n, T.set_n, T.set_e, Nat.reduceDiv, Nat.reduceMod, stepAny, wantedA_none, K8f, k8_fn, lstOf_same hL, sameT, hk0] <;> rfl))
  | (with_reducible rw [ifQ_t])
  | (with_reducible rw [ifQ_f])
  | (with_reducible refine ifQ_intro ?_ ?_ <;> intro hb))
  subst hQ
  refine ret_back (by simp only [Tryz.results76, resultOf, resultsA, resultA, List.toList_toArray, Fr.ev, T.get_n, Nat.reduceDiv, Nat.reduceMod, Nat.reduceSub, Nat.reduceEqDiff, ↓reduceIte] <;> rfl) ⟨_, out_b ?_, ?_⟩
  · rw [decide_eq_true_iff]; exact idxK_iff
  repeat (first | exact Same.base _ _ _ | exact Same.refl _ | refine Same.hset hw ?_ (ky_le _ _))


end Go.Proofs.YtneoghpfbgjaiaaGreatDoor

