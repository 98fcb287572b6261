/- A part of the proof of the law SerialBehind. CONDITIONS: those that each theorem names. -/
import Derived.Test.YtgjddbcnnelgpaaGreatDoorB7
namespace Go.Proofs.YtgjddbcnnelgpaaGreatDoor
open Go Go.Ai
set_option maxRecDepth 100000

noncomputable def KBf : FuncId → List AV → St → Outs := fun f args z => match f, args with
  | 21, [.nils] => some [.val (.tup []) z]
  | 21, [.slice k 0 0 m none] => match rowInts (hget z.h k) with
    | some zs => open Classical in if m = zs.length ∧ 0 < zs.length ∧ zs.length ≤ 1000000 then some [.val (.tup []) ⟨hset z.h k (mkRow (ints (sorted zs)) 1), z.fc⟩] else none
    | none => none
  | _, _ => none
noncomputable def KB : CallF := ⟨KBf, fun _ _ _ => none⟩
theorem kb_fn (f : FuncId) (args : List AV) (s : St) : CallF.fn KB f args s = KBf f args s := rfl
set_option maxHeartbeats 8000000 in
theorem prog7 (kb_ok : KOK Tryz.prog [] KB) (h : Heap) (F : Nat) (a : AV) (LL : List (List (List AV))) (hA : Lst2 h ksC a LL) (hN : LL.length ≤ 1000) (hM : ∀ l ∈ LL, l.length ≤ 100000) (s : Nat) (hs : s < LL.length)
    {Q : Out → Prop} (hQf : ∀ h1 lc l, Wf ⟨h, F⟩ → SameH h h1 → IL h1 F lc l (behind (LL.map seqs) s) → Q (.val l ⟨h1, F + 1⟩)) : SndQ Tryz.prog [] 7 [a, .int .i64 (s : Int)] ⟨h, F⟩ Q := by
  have mxl : maxLen = 9223372036854775807 := by decide
  refine sndQ_wf fun hw => ?_
  have hMl : (LL.map seqs).length = LL.length := by simp
  refine sndQ_body (K := KB) kb_ok mixed noNum (m := 200001) Tryz.func7 ?_
  generalize hQ : retQ _ _ _ _ _ _ = Q0
  refine body_go (c := Tryz.f7.body.getD .skip) (n := 74) rfl rfl (by simp only [↓reduceIte, T.setList, T.set_e, T.set_n, Nat.reduceDiv, Nat.reduceMod, Nat.reduceEqDiff, Nat.zero_add] <;> rfl) ?_
  simp only [Tryz.f7, Option.getD_some]
  repeat' (first
  | with_reducible refine r_seq ?_
  | with_reducible refine r_next ?_
  | with_reducible refine r_block ?_
  | with_reducible refine r_seq_exit ?_
  | with_reducible refine r_seq_ret ?_
  | with_reducible refine r_blk_n ?_
  | with_reducible refine r_blk_ret ?_
  | with_reducible refine r_blk_hit ?_
  | with_reducible refine r_blk_miss rfl ?_
  | with_reducible refine r_skip ?_
  | with_reducible refine r_exit ?_
  | with_reducible refine r_ret ?_
  | with_reducible refine r_rq_exit ?_
  | with_reducible refine r_rq_ret ?_
  | ((with_reducible apply r_regA); (focus (simp only [List.append_eq, List.cons_append, List.nil_append] <;> rfl)); (focus (first | exact Nat.le_of_ble_eq_true rfl | (simp only [List.length_cons, List.length_nil]; omega))))
  | ((with_reducible refine r_reg (List.toList_toArray) ?_ ?_); focus (first | exact Nat.le_of_ble_eq_true rfl | (simp only [List.length_cons, List.length_nil]; omega)))
  | ((with_reducible apply r_drawL); (focus kernel_rfl); (focus kernel_rfl); (focus (first | exact Nat.le_of_ble_eq_true rfl | (simp only [List.length_cons, List.length_nil]; omega))))
  | ((with_reducible apply r_end); focus (simp only [Nat.reduceAdd, Nat.zero_add] <;> rfl))
  | ((with_reducible (first | apply r_move | apply r_assign)); (focus (simp only [T.get_n, Nat.reduceEqDiff, Nat.reduceDiv, Nat.reduceMod, Nat.reduceSub, ↓reduceIte] <;> rfl)); (focus (exact Nat.le_of_ble_eq_true rfl)))
  | ((with_reducible apply r_condT); (focus (simp only [T.get_n, Nat.reduceEqDiff, Nat.reduceDiv, Nat.reduceMod, Nat.reduceSub, ↓reduceIte] <;> rfl)))
  | ((with_reducible (first | apply r_any | apply r_cond)); focus (simp only [↓reduceIte, wantedA_eq, gBool_f, Bool.not_false, clsOf, clsCall, newBlk, allocOp, Fr.ev, evParts, ofV, ofA, ofS, put_mk, upd_mk, keyOf_mk, pureOp, readOp, pBin, binA, intOp_lss, intOp_geq, pPick, List.getElem?_cons_zero, List.getElem?_cons_succ, Nat.zero_add, Nat.add_zero, Nat.reduceAdd, Nat.reduceLT, Nat.reduceEqDiff, Nat.reduceSub, binA, stepOp, stV_mk, stB_mk, T.get_n, T.set_n, T.set_e, Nat.reduceDiv, Nat.reduceMod, Tryz.underlying26, stepAny, wantedA_none, rCall, rLen, ls_f (show ¬ (s : Int) < 0 by omega), ge_f (show ¬ (LL.length : Int) ≤ (s : Int) by omega), rLen1_L2 Tryz.underlying22 hA, nBS_int sz2 zr2] <;> rfl))
  | (with_reducible rw [ifQ_t])
  | (with_reducible rw [ifQ_f])
  | (with_reducible refine ifQ_intro ?_ ?_ <;> intro hb))
  refine r_loop (I := fun nn fr s1 => ∃ lc tt h1 p out lo lk, fr = ⟨F, lc, 74, tt, [], .no⟩ ∧ s1 = ⟨h1, F + 1⟩ ∧ p ≤ out.length + 1 ∧ nn = s + 2 - p ∧ 10 ≤ lc ∧ lc + nn * 1000000000 ≤ 100000000000000000000000000 ∧ tt.get 0 = some a ∧ tt.get 5 = some (.map (ky F 9)) ∧ tt.get 6 = some lo ∧ tt.get 7 = some lk ∧ SameH h h1 ∧ hget h1 (ky F 9) = some (iMap out) ∧ Two h1 F lc lo lk out ((iL ((s : Int) :: out)).drop p) ∧ BI (LL.map seqs) s p out) (n := s + 2) ?_ ?_ ?_
  · omega
  · refine ⟨_, _, _, 0, [], _, _, rfl, rfl, Nat.zero_le _, rfl, by omega, by omega, (by first | (simp only [Tget_set, T.get_n, Nat.reduceEqDiff, ↓reduceIte] <;> rfl) | rfl), (by first | (simp only [Tget_set, T.get_n, Nat.reduceEqDiff, Nat.reduceDiv, Nat.reduceMod, Nat.reduceSub, ↓reduceIte] <;> rfl) | rfl), (by first | (simp only [Tget_set, T.get_n, Nat.reduceEqDiff, Nat.reduceDiv, Nat.reduceMod, Nat.reduceSub, ↓reduceIte] <;> rfl) | rfl), (by first | (simp only [Tget_set, ↓reduceIte] <;> rfl) | rfl), (by repeat (first | exact SameH.refl _ | refine SameH.hset hw ?_ (ky_le _ _))), (by first | (simp only [Nat.reduceEqDiff, ↓reduceIte, hget_same, hget_hset_ite, ky_inj] <;> rfl) | rfl), ?_, BI.init _ _⟩
    refine ⟨13, by omega, by omega, OwnL.new (L := iL [(s : Int)]) (iL_one [(s : Int)]) ?_ (.inr rfl), .inl ⟨rfl, rfl⟩⟩
    rw [hget_same]; rfl
  rintro nn fr s1 ⟨lc, tt, h1, p, out, lo, lk, rfl, rfl, hp, rfl, hl0, hlc, ht0, ht5, ht6, ht7, hS, hc, hT, hI⟩
  have hshort := hI.short
  have hlk : rLen1 Tryz.prog h1 26 (some lk) = some (.int .i64 ((out.length + 1 - p : Nat) : Int)) := by
    obtain ⟨ck, _, ho⟩ := hT.look
    obtain ⟨pre, eo, cap, e, _⟩ := ho.cells
    rw [e, rLen1_sl]
    simp only [lenA, Tryz.underlying26, List.length_drop, iL_len, List.length_cons]
  by_cases hpl : p ≤ out.length
  · have hgt : decide ((0 : Int) < ((out.length + 1 - p : Nat) : Int)) = true := decide_eq_true (by omega)
    obtain ⟨n, hn, hns, hrn⟩ := hI.at hpl
    have hdrop := iL_drop (s : Int) out hn
    rw [hdrop] at hT
    obtain ⟨lk', hsl, hT'⟩ := hT.tail Tryz.underlying26 sz2
    obtain ⟨L, hL⟩ : ∃ L, LL[n]? = some L := ⟨LL[n]'(by omega), by simp⟩
    have hLm : (LL.map seqs)[n]? = some (seqs L) := by rw [List.getElem?_map, hL]; rfl
    have hLl : L.length ≤ 100000 := hM L (List.mem_of_getElem? hL)
    have hnN : n < LL.length := by omega
    have hstep := hI.step hpl hn hLm
    obtain ⟨ck, hck, ho⟩ := hT.look
    obtain ⟨o1, eo1, cap1, e1, r1⟩ := ho.head rfl
    obtain ⟨b0, o0, eo0, cap0, x, rfl, hb0, r0, hX⟩ := hA.at hw hS hL
    subst e1
    have hi0 : 0 < ((iL ((s : Int) :: out)).drop (p + 1)).length + 1 := by omega
    have r1' : rdAB (hget h1 (ky F ck)) o1 1 = some [.int .i64 (n : Int)] := by simpa using r1
    have pI0 : ∀ id : Nat, pIA Tryz.prog 26 (some (.slice id o1 eo1 (((iL ((s : Int) :: out)).drop (p + 1)).length + 1) cap1)) (some (.int .i64 (0 : Int))) = some (.ptr id (o1 + 0 * 1)) := fun (id : Nat) => pIA_s (P := Tryz.prog) (id := id) (off := o1) (eo := eo1) (cap := cap1) Tryz.underlying26 sz2 hi0
    repeat' (first
    | with_reducible refine r_seq ?_
    | with_reducible refine r_next ?_
    | with_reducible refine r_block ?_
    | with_reducible refine r_seq_exit ?_
    | with_reducible refine r_seq_ret ?_
    | with_reducible refine r_blk_n ?_
    | with_reducible refine r_blk_ret ?_
    | with_reducible refine r_blk_hit ?_
    | with_reducible refine r_blk_miss rfl ?_
    | with_reducible refine r_skip ?_
    | with_reducible refine r_exit ?_
    | with_reducible refine r_ret ?_
    | with_reducible refine r_rq_exit ?_
    | with_reducible refine r_rq_ret ?_
    | ((with_reducible apply r_regA); (focus (simp only [List.append_eq, List.cons_append, List.nil_append] <;> rfl)); (focus (first | exact Nat.le_of_ble_eq_true rfl | (simp only [List.length_cons, List.length_nil]; omega))))
    | ((with_reducible refine r_reg (List.toList_toArray) ?_ ?_); focus (first | exact Nat.le_of_ble_eq_true rfl | (simp only [List.length_cons, List.length_nil]; omega)))
    | ((with_reducible apply r_drawL); (focus kernel_rfl); (focus kernel_rfl); (focus (first | exact Nat.le_of_ble_eq_true rfl | (simp only [List.length_cons, List.length_nil]; omega))))
    | ((with_reducible apply r_end); focus (simp only [Nat.add_assoc, Nat.reduceAdd, Nat.zero_add] <;> rfl))
    | ((with_reducible (first | apply r_move | apply r_assign)); (focus (simp only [Tget_set, Nat.reduceEqDiff, ↓reduceIte, ht0, ht7] <;> rfl)); (focus (exact Nat.le_of_ble_eq_true rfl)))
    | ((with_reducible apply r_condT); (focus (simp only [Tget_set, ↓reduceIte] <;> rfl)))
    | ((with_reducible (first | apply r_any | apply r_cond)); focus (simp only [↓reduceIte, clsOf, clsCall, Fr.ev, ofV, ofA, ofS, put_mk, pureOp, readOp, rLd, oneCell_one, pBin, binA, intOp_gtr, List.getElem?_cons_zero, Nat.add_zero, Nat.reduceLT, Nat.reduceEqDiff, loadA_w, loadW_s, binA, stepOp, stV_mk, sz2, ag2, sz23, ag23, stepAny, wantedA_none, rCall, rLen, Tget_set, hlk, hgt, pI0, r1', pIA_s Tryz.underlying22 sz23 hnN, r0, rSl, pSlice, evO, hsl, rLen1_L Tryz.underlying23 hX, Nat.zero_mul] <;> rfl))
    | (with_reducible rw [ifQ_t])
    | (with_reducible rw [ifQ_f])
    | (with_reducible refine ifQ_intro ?_ ?_ <;> intro hb))
    refine r_loop (I := fun nn fr s1 => ∃ lc2 tt2 h2 j lo2 lk2, fr = ⟨F, lc2, 74, tt2, [], .no⟩ ∧ s1 = ⟨h2, F + 1⟩ ∧ j ≤ L.length ∧ nn = L.length - j ∧ lc ≤ lc2 ∧ lc2 + nn * 1000 ≤ lc + 999000000 ∧ tt2.get 0 = some (.slice b0 o0 eo0 LL.length cap0) ∧ tt2.get 5 = some (.map (ky F 9)) ∧ tt2.get 6 = some lo2 ∧ tt2.get 7 = some lk2 ∧ tt2.get 8 = some (.int .i64 (n : Int)) ∧ tt2.get 33 = some x ∧ tt2.get 34 = some (.int .i64 (L.length : Int)) ∧ tt2.get 35 = some (.int .i64 (j : Int)) ∧ SameH h h2 ∧ hget h2 (ky F 9) = some (iMap (((seqs L).take j).foldl (bstep n) out)) ∧ Two h2 F lc2 lo2 lk2 (((seqs L).take j).foldl (bstep n) out) ((iL ((s : Int) :: ((seqs L).take j).foldl (bstep n) out)).drop (p + 1))) (n := L.length) ?_ ?_ ?_
    · omega
    · exact ⟨_, _, _, 0, _, _, rfl, rfl, Nat.zero_le _, (Nat.sub_zero _).symm, by omega, by omega, (by first | (simp only [Tget_set, Nat.reduceEqDiff, ↓reduceIte, ht0] <;> rfl) | rfl), (by first | (simp only [Tget_set, Nat.reduceEqDiff, ↓reduceIte, ht5] <;> rfl) | rfl), (by first | (simp only [Tget_set, Nat.reduceEqDiff, ↓reduceIte, ht6] <;> rfl) | rfl), (by first | (simp only [Tget_set, Nat.reduceEqDiff, ↓reduceIte] <;> rfl) | rfl), (by first | (simp only [Tget_set, Nat.reduceEqDiff, ↓reduceIte] <;> rfl) | rfl), (by first | (simp only [Tget_set, Nat.reduceEqDiff, ↓reduceIte] <;> rfl) | rfl), (by first | (simp only [Tget_set, Nat.reduceEqDiff, ↓reduceIte] <;> rfl) | rfl), (by first | (simp only [Tget_set, ↓reduceIte] <;> rfl) | rfl), hS, hc, hT'.up (by omega)⟩
    rintro nn fr s1 ⟨lc2, tt2, h2, j, lo2, lk2, rfl, rfl, hj, rfl, hl2, hlc2, u0, u5, u6, u7, u8, u33, u34, u35, hS2, hc2, hT2⟩
    by_cases hjl : j < L.length
    · obtain ⟨b5, o5, eo5, cap5, sx, c, rfl, hb5, hcn, r5, r6⟩ := cause_at hw hX hS2 hjl
      have hps := hI.part hpl hn hLm j
      by_cases hc0 : c < 0
      · have hold : ((seqs L).take (j + 1)).foldl (bstep n) out = ((seqs L).take j).foldl (bstep n) out := by rw [foldl_take hcn, bstep_old (.inl hc0)]
        repeat' (first
        | with_reducible refine r_seq ?_
        | with_reducible refine r_next ?_
        | with_reducible refine r_block ?_
        | with_reducible refine r_seq_exit ?_
        | with_reducible refine r_seq_ret ?_
        | with_reducible refine r_blk_n ?_
        | with_reducible refine r_blk_ret ?_
        | with_reducible refine r_blk_hit ?_
        | with_reducible refine r_blk_miss rfl ?_
        | with_reducible refine r_skip ?_
        | with_reducible refine r_exit ?_
        | with_reducible refine r_ret ?_
        | with_reducible refine r_rq_exit ?_
        | with_reducible refine r_rq_ret ?_
        | ((with_reducible apply r_regA); (focus (simp only [List.append_eq, List.cons_append, List.nil_append] <;> rfl)); (focus (first | exact Nat.le_of_ble_eq_true rfl | (simp only [List.length_cons, List.length_nil]; omega))))
        | ((with_reducible refine r_reg (List.toList_toArray) ?_ ?_); focus (first | exact Nat.le_of_ble_eq_true rfl | (simp only [List.length_cons, List.length_nil]; omega)))
        | ((with_reducible apply r_drawL); (focus kernel_rfl); (focus kernel_rfl); (focus (first | exact Nat.le_of_ble_eq_true rfl | (simp only [List.length_cons, List.length_nil]; omega))))
        | ((with_reducible apply r_end); focus (simp only [Nat.add_assoc, Nat.reduceAdd, Nat.zero_add] <;> rfl))
        | ((with_reducible (first | apply r_move | apply r_assign)); (focus (simp only [Tget_set, ↓reduceIte] <;> rfl)); (focus (exact Nat.le_of_ble_eq_true rfl)))
        | ((with_reducible apply r_condT); (focus (simp only [Tget_set, ↓reduceIte] <;> rfl)))
        | ((with_reducible (first | apply r_any | apply r_cond)); focus (simp only [↓reduceIte, wantedA_eq, gBool_f, Bool.not_true, clsOf, newBlk, allocOp, Fr.ev, ofV, ofA, ofS, nVar, AV.cells, rowOf_mk, put_mk, put_none, upd_mk, keyOf_mk, pureOp, readOp, pFA, pFA1, pFA2, rLd, rdAB_row, oneCell_one, someAgg_s, hget_same, pBin, binA, intOp_lss, pPick, List.length_cons, List.length_nil, List.getElem?_cons_zero, List.getElem?_cons_succ, List.drop_zero, List.drop_succ_cons, List.take_succ_cons, List.take_zero, Nat.zero_add, Nat.reduceAdd, Nat.reduceLT, Nat.reduceLeDiff, Nat.reduceEqDiff, and_self, Nat.add_eq, loadA_w, loadW_a, loadW_s, aSt_w, stOut_s, wrAB_row, ovr, List.set_cons_zero, List.set_cons_succ, allCell, isCell, actOp, binA, stepOp, stHeavy, stV_mk, stB_mk, stO_mk, sz2, ag2, sz74, ag74, zr74, Tryz.underlying74, stepAny, wantedA_none, Tget_set, u33, u34, u35, lt_t hjl, pIA_s Tryz.underlying23 sz74 hjl, r5, ls_t hc0, zr74, intOp_add (inR_succ hjl (show L.length ≤ maxLen by omega))] <;> rfl))
        | (with_reducible rw [ifQ_t])
        | (with_reducible rw [ifQ_f])
        | (with_reducible refine ifQ_intro ?_ ?_ <;> intro hb))
        refine r_rq_n (k := L.length - (j + 1)) (by omega) ⟨_, _, _, j + 1, _, _, rfl, rfl, by omega, rfl, by omega, by omega, (by first | (simp only [Tget_set, Nat.reduceEqDiff, ↓reduceIte, u0] <;> rfl) | rfl), (by first | (simp only [Tget_set, Nat.reduceEqDiff, ↓reduceIte, u5] <;> rfl) | rfl), (by first | (simp only [Tget_set, Nat.reduceEqDiff, ↓reduceIte, u6] <;> rfl) | rfl), (by first | (simp only [Tget_set, Nat.reduceEqDiff, ↓reduceIte, u7] <;> rfl) | rfl), (by first | (simp only [Tget_set, Nat.reduceEqDiff, ↓reduceIte, u8] <;> rfl) | rfl), (by first | (simp only [Tget_set, Nat.reduceEqDiff, ↓reduceIte, u33] <;> rfl) | rfl), (by first | (simp only [Tget_set, Nat.reduceEqDiff, ↓reduceIte, u34] <;> rfl) | rfl), (by first | (simp only [Tget_set, ↓reduceIte] <;> rfl) | rfl), (by repeat (first | exact hS2 | refine SameH.hset hw ?_ (ky_le _ _))), (by rw [hget_hset_ite, if_neg (by rw [ky_inj]; omega), hget_hset_ite, if_neg (by rw [ky_inj]; omega), hold]; exact hc2), (by rw [hold]; exact (hT2.set (by omega)).set (by omega) |>.up (by omega))⟩
      · by_cases hcn2 : (n : Int) ≤ c
        · have hold : ((seqs L).take (j + 1)).foldl (bstep n) out = ((seqs L).take j).foldl (bstep n) out := by rw [foldl_take hcn, bstep_old (.inr (.inl hcn2))]
          repeat' (first
          | with_reducible refine r_seq ?_
          | with_reducible refine r_next ?_
          | with_reducible refine r_block ?_
          | with_reducible refine r_seq_exit ?_
          | with_reducible refine r_seq_ret ?_
          | with_reducible refine r_blk_n ?_
          | with_reducible refine r_blk_ret ?_
          | with_reducible refine r_blk_hit ?_
          | with_reducible refine r_blk_miss rfl ?_
          | with_reducible refine r_skip ?_
          | with_reducible refine r_exit ?_
          | with_reducible refine r_ret ?_
          | with_reducible refine r_rq_exit ?_
          | with_reducible refine r_rq_ret ?_
          | ((with_reducible apply r_regA); (focus (simp only [List.append_eq, List.cons_append, List.nil_append] <;> rfl)); (focus (first | exact Nat.le_of_ble_eq_true rfl | (simp only [List.length_cons, List.length_nil]; omega))))
          | ((with_reducible refine r_reg (List.toList_toArray) ?_ ?_); focus (first | exact Nat.le_of_ble_eq_true rfl | (simp only [List.length_cons, List.length_nil]; omega)))
          | ((with_reducible apply r_drawL); (focus kernel_rfl); (focus kernel_rfl); (focus (first | exact Nat.le_of_ble_eq_true rfl | (simp only [List.length_cons, List.length_nil]; omega))))
          | ((with_reducible apply r_end); focus (simp only [Nat.add_assoc, Nat.reduceAdd, Nat.zero_add] <;> rfl))
          | ((with_reducible (first | apply r_move | apply r_assign)); (focus (simp only [Tget_set, ↓reduceIte] <;> rfl)); (focus (exact Nat.le_of_ble_eq_true rfl)))
          | ((with_reducible apply r_condT); (focus (simp only [Tget_set, ↓reduceIte] <;> rfl)))
          | ((with_reducible (first | apply r_any | apply r_cond)); focus (simp only [↓reduceIte, wantedA_eq, gBool_f, Bool.not_true, Bool.not_false, clsOf, newBlk, allocOp, Fr.ev, ofV, ofA, ofS, nVar, AV.cells, rowOf_mk, put_mk, put_none, upd_mk, keyOf_mk, pureOp, readOp, pFA, pFA1, pFA2, rLd, rdAB_row, oneCell_one, someAgg_s, hget_same, pBin, binA, intOp_lss, intOp_geq, pPick, List.length_cons, List.length_nil, List.getElem?_cons_zero, List.getElem?_cons_succ, List.drop_zero, List.drop_succ_cons, List.take_succ_cons, List.take_zero, Nat.zero_add, Nat.reduceAdd, Nat.reduceLT, Nat.reduceLeDiff, Nat.reduceEqDiff, and_self, Nat.add_eq, loadA_w, loadW_a, loadW_s, aSt_w, stOut_s, wrAB_row, ovr, List.set_cons_zero, List.set_cons_succ, allCell, isCell, actOp, binA, stepOp, stHeavy, stV_mk, stB_mk, stO_mk, sz2, ag2, sz74, ag74, zr74, Tryz.underlying74, stepAny, wantedA_none, Tget_set, u8, u33, u34, u35, lt_t hjl, pIA_s Tryz.underlying23 sz74 hjl, r5, ls_f hc0, ge_t hcn2, zr74, intOp_add (inR_succ hjl (show L.length ≤ maxLen by omega))] <;> rfl))
          | (with_reducible rw [ifQ_t])
          | (with_reducible rw [ifQ_f])
          | (with_reducible refine ifQ_intro ?_ ?_ <;> intro hb))
          refine r_rq_n (k := L.length - (j + 1)) (by omega) ⟨_, _, _, j + 1, _, _, rfl, rfl, by omega, rfl, by omega, by omega, (by first | (simp only [Tget_set, Nat.reduceEqDiff, ↓reduceIte, u0] <;> rfl) | rfl), (by first | (simp only [Tget_set, Nat.reduceEqDiff, ↓reduceIte, u5] <;> rfl) | rfl), (by first | (simp only [Tget_set, Nat.reduceEqDiff, ↓reduceIte, u6] <;> rfl) | rfl), (by first | (simp only [Tget_set, Nat.reduceEqDiff, ↓reduceIte, u7] <;> rfl) | rfl), (by first | (simp only [Tget_set, Nat.reduceEqDiff, ↓reduceIte, u8] <;> rfl) | rfl), (by first | (simp only [Tget_set, Nat.reduceEqDiff, ↓reduceIte, u33] <;> rfl) | rfl), (by first | (simp only [Tget_set, Nat.reduceEqDiff, ↓reduceIte, u34] <;> rfl) | rfl), (by first | (simp only [Tget_set, ↓reduceIte] <;> rfl) | rfl), (by repeat (first | exact hS2 | refine SameH.hset hw ?_ (ky_le _ _))), (by rw [hget_hset_ite, if_neg (by rw [ky_inj]; omega), hget_hset_ite, if_neg (by rw [ky_inj]; omega), hold]; exact hc2), (by rw [hold]; exact (hT2.set (by omega)).set (by omega) |>.up (by omega))⟩
        · by_cases hin : c ∈ ((seqs L).take j).foldl (bstep n) out
          · have hm9 : hget (hset (hset h2 (ky F (lc2 + 1 + 2)) (mkRow [.str [], .int .i64 0] 0)) (ky F (lc2 + 1 + 2)) (mkRow [.str sx, .int .i64 c] 0)) (ky F 9) = some (iMap (((seqs L).take j).foldl (bstep n) out)) := by rw [hget_hset_ite, if_neg (by rw [ky_inj]; omega), hget_hset_ite, if_neg (by rw [ky_inj]; omega)]; exact hc2
            have hold : ((seqs L).take (j + 1)).foldl (bstep n) out = ((seqs L).take j).foldl (bstep n) out := by rw [foldl_take hcn, bstep_old (.inr (.inr hin))]
            repeat' (first
            | with_reducible refine r_seq ?_
            | with_reducible refine r_next ?_
            | with_reducible refine r_block ?_
            | with_reducible refine r_seq_exit ?_
            | with_reducible refine r_seq_ret ?_
            | with_reducible refine r_blk_n ?_
            | with_reducible refine r_blk_ret ?_
            | with_reducible refine r_blk_hit ?_
            | with_reducible refine r_blk_miss rfl ?_
            | with_reducible refine r_skip ?_
            | with_reducible refine r_exit ?_
            | with_reducible refine r_ret ?_
            | with_reducible refine r_rq_exit ?_
            | with_reducible refine r_rq_ret ?_
            | ((with_reducible apply r_regA); (focus (simp only [List.append_eq, List.cons_append, List.nil_append] <;> rfl)); (focus (first | exact Nat.le_of_ble_eq_true rfl | (simp only [List.length_cons, List.length_nil]; omega))))
            | ((with_reducible refine r_reg (List.toList_toArray) ?_ ?_); focus (first | exact Nat.le_of_ble_eq_true rfl | (simp only [List.length_cons, List.length_nil]; omega)))
            | ((with_reducible apply r_drawL); (focus kernel_rfl); (focus kernel_rfl); (focus (first | exact Nat.le_of_ble_eq_true rfl | (simp only [List.length_cons, List.length_nil]; omega))))
            | ((with_reducible apply r_end); focus (simp only [Nat.add_assoc, Nat.reduceAdd, Nat.zero_add] <;> rfl))
            | ((with_reducible (first | apply r_move | apply r_assign)); (focus (simp only [Tget_set, ↓reduceIte] <;> rfl)); (focus (exact Nat.le_of_ble_eq_true rfl)))
            | ((with_reducible apply r_condT); (focus (simp only [Tget_set, ↓reduceIte] <;> rfl)))
            | ((with_reducible (first | apply r_any | apply r_cond)); focus (simp only [↓reduceIte, wantedA_eq, gBool_f, Bool.not_false, clsOf, newBlk, allocOp, Fr.ev, ofV, ofA, ofS, nVar, AV.cells, rowOf_mk, put_mk, put_none, upd_mk, keyOf_mk, pureOp, readOp, pFA, pFA1, pFA2, rLd, rdAB_row, oneCell_one, someAgg_s, hget_same, pBin, binA, intOp_lss, intOp_gtr, intOp_geq, pPick, List.length_cons, List.length_nil, List.getElem?_cons_zero, List.getElem?_cons_succ, List.drop_zero, List.drop_succ_cons, List.take_succ_cons, List.take_zero, Nat.zero_add, Nat.reduceAdd, Nat.reduceLT, Nat.reduceLeDiff, Nat.reduceEqDiff, and_self, Nat.add_eq, loadA_w, loadW_a, loadW_s, aSt_w, stOut_s, wrAB_row, ovr, List.set_cons_zero, List.set_cons_succ, allCell, isCell, actOp, binA, decide_true, Int.reduceLT, stepOp, stHeavy, stV_mk, stB_mk, stO_mk, sz2, ag2, Tryz.underlying72, sz74, ag74, zr74, Tryz.underlying74, stepAny, wantedA_none, Tget_set, u5, u8, u33, u34, u35, lt_t hjl, pIA_s Tryz.underlying23 sz74 hjl, r5, ls_f hc0, ge_f hcn2, zr74, Tryz.underlying72, rLk_in Tryz.underlying2 zr3 hm9 hin, intOp_add (inR_succ hjl (show L.length ≤ maxLen by omega))] <;> rfl))
            | (with_reducible rw [ifQ_t])
            | (with_reducible rw [ifQ_f])
            | (with_reducible refine ifQ_intro ?_ ?_ <;> intro hb))
            refine r_rq_n (k := L.length - (j + 1)) (by omega) ⟨_, _, _, j + 1, _, _, rfl, rfl, by omega, rfl, by omega, by omega, (by first | (simp only [Tget_set, Nat.reduceEqDiff, ↓reduceIte, u0] <;> rfl) | rfl), (by first | (simp only [Tget_set, Nat.reduceEqDiff, ↓reduceIte, u5] <;> rfl) | rfl), (by first | (simp only [Tget_set, Nat.reduceEqDiff, ↓reduceIte, u6] <;> rfl) | rfl), (by first | (simp only [Tget_set, Nat.reduceEqDiff, ↓reduceIte, u7] <;> rfl) | rfl), (by first | (simp only [Tget_set, Nat.reduceEqDiff, ↓reduceIte, u8] <;> rfl) | rfl), (by first | (simp only [Tget_set, Nat.reduceEqDiff, ↓reduceIte, u33] <;> rfl) | rfl), (by first | (simp only [Tget_set, Nat.reduceEqDiff, ↓reduceIte, u34] <;> rfl) | rfl), (by first | (simp only [Tget_set, ↓reduceIte] <;> rfl) | rfl), (by repeat (first | exact hS2 | refine SameH.hset hw ?_ (ky_le _ _))), (by rw [hget_hset_ite, if_neg (by rw [ky_inj]; omega), hget_hset_ite, if_neg (by rw [ky_inj]; omega), hold]; exact hc2), (by rw [hold]; exact (hT2.set (by omega)).set (by omega) |>.up (by omega))⟩
          · have hm9 : hget (hset (hset h2 (ky F (lc2 + 1 + 2)) (mkRow [.str [], .int .i64 0] 0)) (ky F (lc2 + 1 + 2)) (mkRow [.str sx, .int .i64 c] 0)) (ky F 9) = some (iMap (((seqs L).take j).foldl (bstep n) out)) := by rw [hget_hset_ite, if_neg (by rw [ky_inj]; omega), hget_hset_ite, if_neg (by rw [ky_inj]; omega)]; exact hc2
            have hfold : ((seqs L).take (j + 1)).foldl (bstep n) out = (((seqs L).take j).foldl (bstep n) out) ++ [c] := by
              rw [foldl_take hcn, bstep_new]
              rintro (h | h | h)
              · exact hc0 h
              · exact hcn2 h
              · exact hin h
            have hol : (((seqs L).take j).foldl (bstep n) out).length ≤ 1000 := by omega
            have hoo : out.length ≤ (((seqs L).take j).foldl (bstep n) out).length := by
              obtain ⟨ex, hex⟩ := bfold_ext (n : Int) ((seqs L).take j) out
              rw [hex, List.length_append]; omega
            have T1 : Two (hset (hset h2 (ky F (lc2 + 1 + 2)) (mkRow [.str [], .int .i64 0] 0)) (ky F (lc2 + 1 + 2)) (mkRow [.str sx, .int .i64 c] 0)) F lc2 lo2 lk2 (((seqs L).take j).foldl (bstep n) out) ((iL ((s : Int) :: (((seqs L).take j).foldl (bstep n) out))).drop (p + 1)) := (hT2.set (.inl (by omega))).set (.inl (by omega))
            have T2 : Two (hset (hset (hset h2 (ky F (lc2 + 1 + 2)) (mkRow [.str [], .int .i64 0] 0)) (ky F (lc2 + 1 + 2)) (mkRow [.str sx, .int .i64 c] 0)) (ky F 9) (iMap ((((seqs L).take j).foldl (bstep n) out) ++ [c]))) F lc2 lo2 lk2 (((seqs L).take j).foldl (bstep n) out) ((iL ((s : Int) :: (((seqs L).take j).foldl (bstep n) out))).drop (p + 1)) := T1.set (.inr rfl)
            have ap1 := fun (key : Nat) => app_ints2 (P := Tryz.prog) (key := key) (f := F + 1) (a := 27) (b := 3) (x := c) (cap := some 1) Tryz.underlying26 sz2 by2 zo2 (by omega) T2.il hol
            have T3 : Two (hset (kill (hset (hset (hset (hset h2 (ky F (lc2 + 1 + 2)) (mkRow [.str [], .int .i64 0] 0)) (ky F (lc2 + 1 + 2)) (mkRow [.str sx, .int .i64 c] 0)) (ky F 9) (iMap ((((seqs L).take j).foldl (bstep n) out) ++ [c]))) (ky F (lc2 + 27 + 3)) (mkRow [.int .i64 c] 1)) lo2) (ky F (lc2 + 27 + 4)) (mkRow (ints ((((seqs L).take j).foldl (bstep n) out) ++ [c])) 1)) F (lc2 + 27 + 4 + 1) (.slice (ky F (lc2 + 27 + 4)) 0 0 ((((seqs L).take j).foldl (bstep n) out) ++ [c]).length none) lk2 ((((seqs L).take j).foldl (bstep n) out) ++ [c]) ((iL ((s : Int) :: (((seqs L).take j).foldl (bstep n) out))).drop (p + 1)) := T2.more (by omega) fun c' hc' => by rw [hget_hset, if_neg (by rw [ky_inj]; omega)]
            have T4 : Two (hset (hset (kill (hset (hset (hset (hset h2 (ky F (lc2 + 1 + 2)) (mkRow [.str [], .int .i64 0] 0)) (ky F (lc2 + 1 + 2)) (mkRow [.str sx, .int .i64 c] 0)) (ky F 9) (iMap ((((seqs L).take j).foldl (bstep n) out) ++ [c]))) (ky F (lc2 + 27 + 3)) (mkRow [.int .i64 c] 1)) lo2) (ky F (lc2 + 27 + 4)) (mkRow (ints ((((seqs L).take j).foldl (bstep n) out) ++ [c])) 1)) (ky F (lc2 + 33 + 3)) (mkRow [.int .i64 c] 1)) F (lc2 + 27 + 4 + 1) (.slice (ky F (lc2 + 27 + 4)) 0 0 ((((seqs L).take j).foldl (bstep n) out) ++ [c]).length none) lk2 ((((seqs L).take j).foldl (bstep n) out) ++ [c]) ((iL ((s : Int) :: (((seqs L).take j).foldl (bstep n) out))).drop (p + 1)) := T3.set (.inl (by omega))
            obtain ⟨ck4, _, ho4⟩ := T4.look
            have hws : ((iL ((s : Int) :: (((seqs L).take j).foldl (bstep n) out))).drop (p + 1)).length ≤ 1001 := by rw [List.length_drop, iL_len, List.length_cons]; omega
            have ap2 := fun (key : Nat) => app_own (P := Tryz.prog) (key := key) (s := ⟨(hset (hset (kill (hset (hset (hset (hset h2 (ky F (lc2 + 1 + 2)) (mkRow [.str [], .int .i64 0] 0)) (ky F (lc2 + 1 + 2)) (mkRow [.str sx, .int .i64 c] 0)) (ky F 9) (iMap ((((seqs L).take j).foldl (bstep n) out) ++ [c]))) (ky F (lc2 + 27 + 3)) (mkRow [.int .i64 c] 1)) lo2) (ky F (lc2 + 27 + 4)) (mkRow (ints ((((seqs L).take j).foldl (bstep n) out) ++ [c])) 1)) (ky F (lc2 + 33 + 3)) (mkRow [.int .i64 c] 1)), F + 1⟩) (b := .slice (ky F (lc2 + 33 + 3)) 0 0 1 (some 1)) (N := [[.int .i64 c]]) Tryz.underlying26 Tryz.underlying26 sz2 by2 zo2 ho4 (by simp only [srcCells, readCells_eq, hget_hset, if_true, rdAB_row]; rfl) (by simp) (by decide) (by simp) rfl (by simp only [List.length_cons, List.length_nil]; omega) (by decide)
            have hk1 := fun (h' : Heap) => T2.kill_lo (h' := h') (k := lc2 + 1 + 2) (.inl (by omega))
            have hk9 := fun (h' : Heap) => T2.kill_lo (h' := h') (k := 9) (.inr rfl)
            have hq9 := fun (h' : Heap) => T4.kill_lk (h' := h') (k := 9) (.inr rfl)
            have x1 : (9 = lc2 + 1 + 2) = False := eq_false (by omega)
            have x2 : (lc2 + 1 + 2 = 9) = False := eq_false (by omega)
            have x3 : (lc2 + 1 + 2 = lc2 + 27 + 3) = False := eq_false (by omega)
            have x4 : (lc2 + 1 + 2 = lc2 + 27 + 4) = False := eq_false (by omega)
            have x5 : (lc2 + 1 + 2 = lc2 + 33 + 3) = False := eq_false (by omega)
            have r0c := rLk_out (et := 3) Tryz.underlying2 zr3 hm9 hin
            have mu := aMU_out (et := 3) (s := ⟨(hset (hset h2 (ky F (lc2 + 1 + 2)) (mkRow [.str [], .int .i64 0] 0)) (ky F (lc2 + 1 + 2)) (mkRow [.str sx, .int .i64 c] 0)), F + 1⟩) Tryz.underlying2 hm9 hin
            have hz1 : ((0 : Int) + 1) = 1 := rfl
            repeat' (first
            | with_reducible refine r_seq ?_
            | with_reducible refine r_next ?_
            | with_reducible refine r_block ?_
            | with_reducible refine r_seq_exit ?_
            | with_reducible refine r_seq_ret ?_
            | with_reducible refine r_blk_n ?_
            | with_reducible refine r_blk_ret ?_
            | with_reducible refine r_blk_hit ?_
            | with_reducible refine r_blk_miss rfl ?_
            | with_reducible refine r_skip ?_
            | with_reducible refine r_exit ?_
            | with_reducible refine r_ret ?_
            | with_reducible refine r_rq_exit ?_
            | with_reducible refine r_rq_ret ?_
            | ((with_reducible apply r_regA); (focus (simp only [List.append_eq, List.cons_append, List.nil_append] <;> rfl)); (focus (first | exact Nat.le_of_ble_eq_true rfl | (simp only [List.length_cons, List.length_nil]; omega))))
            | ((with_reducible refine r_reg (List.toList_toArray) ?_ ?_); focus (first | exact Nat.le_of_ble_eq_true rfl | (simp only [List.length_cons, List.length_nil]; omega)))
            | ((with_reducible apply r_drawL); (focus kernel_rfl); (focus kernel_rfl); (focus (first | exact Nat.le_of_ble_eq_true rfl | (simp only [List.length_cons, List.length_nil]; omega))))
            | ((with_reducible apply r_end); focus (simp only [Nat.add_assoc, Nat.reduceAdd, Nat.zero_add] <;> rfl))
            | ((with_reducible (first | apply r_move | apply r_assign)); (focus (simp only [Tget_set, Nat.reduceEqDiff, ↓reduceIte, u5, u6, u7] <;> rfl)); (focus (exact Nat.le_of_ble_eq_true rfl)))
            | ((with_reducible apply r_condT); (focus (simp only [Tget_set, ↓reduceIte] <;> rfl)))
            | ((with_reducible (first | apply r_any | apply r_cond)); focus (simp only [↓reduceIte, wantedA_eq, gBool_f, Bool.not_false, clsOf, clsCall, newBlk, allocOp, Fr.ev, evParts, ofV, ofA, ofS, nVar, AV.cells, rowOf_mk, put_mk, put_none, upd_mk, keyOf_mk, ky_inj, pureOp, readOp, pFA, pFA1, pFA2, rLd, rdAB_row, oneCell_one, someAgg_s, hget_same, hget_hset_ite, pBin, binA, intOp_lss, intOp_gtr, intOp_geq, pPick, List.length_cons, List.length_nil, List.getElem?_cons_zero, List.getElem?_cons_succ, List.drop_zero, List.drop_succ_cons, List.take_succ_cons, List.take_zero, Nat.zero_add, Nat.reduceAdd, Nat.reduceLT, Nat.reduceLeDiff, Nat.reduceEqDiff, and_self, Nat.add_eq, loadA_w, loadW_a, loadW_s, aSt_w, stOut_s, wrAB_row, ovr, List.set_cons_zero, List.set_cons_succ, allCell, isCell, heavyCall, actOp, binA, decide_false, Int.reduceLT, Int.reduceAdd, stepOp, stHeavy, stV_mk, stB_mk, stO_mk, sz2, ag2, Tryz.underlying26, Tryz.underlying72, sz74, ag74, zr74, Tryz.underlying74, stepAny, wantedA_none, Tget_set, u5, u8, u33, u34, u35, lt_t hjl, pIA_s Tryz.underlying23 sz74 hjl, r5, ls_f hc0, ge_f hcn2, zr74, Tryz.underlying72, r0c, intOp_add (show inR ((0 : Int) + 1) by unfold inR; omega), mu, hk1, x2, x3, x4, nBS_int sz2 zr2, aBuiltin, aApp, aApp2, ap1, ap2, outOf, intOp_add (inR_succ hjl (show L.length ≤ maxLen by omega))] <;> rfl))
            | (with_reducible rw [ifQ_t])
            | (with_reducible rw [ifQ_f])
            | (with_reducible refine ifQ_intro ?_ ?_ <;> intro hb))
            refine r_rq_n (k := L.length - (j + 1)) (by omega) ⟨_, _, _, j + 1, _, _, rfl, rfl, by omega, rfl, by omega, by omega, (by first | (simp only [Tget_set, Nat.reduceEqDiff, ↓reduceIte, u0] <;> rfl) | rfl), (by first | (simp only [Tget_set, Nat.reduceEqDiff, ↓reduceIte, u5] <;> rfl) | rfl), (by first | (simp only [Tget_set, Nat.reduceEqDiff, ↓reduceIte] <;> rfl) | rfl), (by first | (simp only [Tget_set, Nat.reduceEqDiff, ↓reduceIte] <;> rfl) | rfl), (by first | (simp only [Tget_set, Nat.reduceEqDiff, ↓reduceIte, u8] <;> rfl) | rfl), (by first | (simp only [Tget_set, Nat.reduceEqDiff, ↓reduceIte, u33] <;> rfl) | rfl), (by first | (simp only [Tget_set, Nat.reduceEqDiff, ↓reduceIte, u34] <;> rfl) | rfl), (by first | (simp only [Tget_set, ↓reduceIte] <;> rfl) | rfl), ?_, ?_, ?_⟩
            · repeat (first | exact hS2 | refine SameH.hset hw ?_ (ky_le _ _) | refine same_kill2 hw T2.il ?_ | refine same_killQ hw ho4 ?_)
            · rw [hfold, hget_hset_ite, if_neg (by rw [ky_inj]; omega), hq9, hget_hset_ite, if_neg (by rw [ky_inj]; omega), hget_hset_ite, if_neg (by rw [ky_inj]; omega), hk9, hget_hset_ite, if_neg (by rw [ky_inj]; omega), hget_hset_ite, if_pos rfl]
            · rw [hfold, iL_grow _ _ _ (by omega)]
              refine (T4.more2 (by omega) (fun _ _ => rfl) ?_).up (by omega)
              intro x hx
              rcases List.mem_append.1 hx with hx | hx
              · exact iL_one _ x (List.mem_of_mem_drop hx)
              · rw [List.mem_singleton] at hx; subst hx; rfl
    · have hend : j = L.length := by omega
      rw [hend, List.take_of_length_le (by simp [seqs])] at hc2 hT2
      repeat' (first
      | with_reducible refine r_seq ?_
      | with_reducible refine r_next ?_
      | with_reducible refine r_block ?_
      | with_reducible refine r_seq_exit ?_
      | with_reducible refine r_seq_ret ?_
      | with_reducible refine r_blk_n ?_
      | with_reducible refine r_blk_ret ?_
      | with_reducible refine r_blk_hit ?_
      | with_reducible refine r_blk_miss rfl ?_
      | with_reducible refine r_skip ?_
      | with_reducible refine r_exit ?_
      | with_reducible refine r_ret ?_
      | with_reducible refine r_rq_exit ?_
      | with_reducible refine r_rq_ret ?_
      | ((with_reducible apply r_regA); (focus (simp only [List.append_eq, List.cons_append, List.nil_append] <;> rfl)); (focus (first | exact Nat.le_of_ble_eq_true rfl | (simp only [List.length_cons, List.length_nil]; omega))))
      | ((with_reducible refine r_reg (List.toList_toArray) ?_ ?_); focus (first | exact Nat.le_of_ble_eq_true rfl | (simp only [List.length_cons, List.length_nil]; omega)))
      | ((with_reducible apply r_drawL); (focus kernel_rfl); (focus kernel_rfl); (focus (first | exact Nat.le_of_ble_eq_true rfl | (simp only [List.length_cons, List.length_nil]; omega))))
      | ((with_reducible apply r_end); focus (simp only [Nat.zero_add] <;> rfl))
      | ((with_reducible (first | apply r_move | apply r_assign)); (focus (simp only [Tget_set, T.get_n, T.get_e, Nat.reduceEqDiff, Nat.reduceDiv, Nat.reduceMod, Nat.reduceSub, ↓reduceIte, if_true, if_false, u0, u5, u6, u7, u8, u33, u34, u35] <;> rfl)); (focus (exact Nat.le_of_ble_eq_true rfl)))
      | ((with_reducible apply r_condT); (focus (simp only [Tget_set, ↓reduceIte] <;> rfl)))
      | ((with_reducible (first | apply r_any | apply r_cond)); focus (simp only [↓reduceIte, clsOf, Fr.ev, put_mk, pureOp, pBin, binA, intOp_lss, Nat.reduceLT, binA, stepOp, stV_mk, stepAny, wantedA_none, u34, u35, lt_f hjl] <;> rfl))
      | (with_reducible rw [ifQ_t])
      | (with_reducible rw [ifQ_f])
      | (with_reducible refine ifQ_intro ?_ ?_ <;> intro hb))
      refine r_rq_n (k := s + 2 - (p + 1)) (by omega) ⟨_, _, _, p + 1, _, _, _, rfl, rfl, ?_, rfl, by omega, by omega, (by first | (simp only [Tget_set, Nat.reduceEqDiff, ↓reduceIte, u0] <;> rfl) | rfl), (by first | (simp only [Tget_set, Nat.reduceEqDiff, ↓reduceIte, u5] <;> rfl) | rfl), (by first | (simp only [Tget_set, Nat.reduceEqDiff, ↓reduceIte, u6] <;> rfl) | rfl), (by first | (simp only [Tget_set, Nat.reduceEqDiff, ↓reduceIte, u7] <;> rfl) | rfl), hS2, hc2, hT2.up (by omega), hstep⟩
      obtain ⟨ex, hex⟩ := bfold_ext (n : Int) (seqs L) out
      rw [hex, List.length_append]; omega
  · have hend : p = out.length + 1 := by omega
    rw [show out.length + 1 - p = 0 by omega] at hlk
    have hlk : rLen1 Tryz.prog h1 26 (some lk) = some (.int .i64 (0 : Int)) := hlk
    have hdone := hI.done hend
    obtain ⟨ck, hck, hck9, ho, hlo⟩ := hT
    rcases hlo with ⟨rfl, rfl⟩ | ⟨hpos, c, hc1, hc9, hcc, rfl, hg⟩
    · repeat' (first
      | with_reducible refine r_seq ?_
      | with_reducible refine r_next ?_
      | with_reducible refine r_block ?_
      | with_reducible refine r_seq_exit ?_
      | with_reducible refine r_seq_ret ?_
      | with_reducible refine r_blk_n ?_
      | with_reducible refine r_blk_ret ?_
      | with_reducible refine r_blk_hit ?_
      | with_reducible refine r_blk_miss rfl ?_
      | with_reducible refine r_skip ?_
      | with_reducible refine r_exit ?_
      | with_reducible refine r_ret ?_
      | with_reducible refine r_rq_exit ?_
      | with_reducible refine r_rq_ret ?_
      | ((with_reducible apply r_regA); (focus (simp only [List.append_eq, List.cons_append, List.nil_append] <;> rfl)); (focus (first | exact Nat.le_of_ble_eq_true rfl | (simp only [List.length_cons, List.length_nil]; omega))))
      | ((with_reducible refine r_reg (List.toList_toArray) ?_ ?_); focus (first | exact Nat.le_of_ble_eq_true rfl | (simp only [List.length_cons, List.length_nil]; omega)))
      | ((with_reducible apply r_drawL); (focus kernel_rfl); (focus kernel_rfl); (focus (first | exact Nat.le_of_ble_eq_true rfl | (simp only [List.length_cons, List.length_nil]; omega))))
      | ((with_reducible apply r_end); focus (simp only [Nat.add_assoc, Nat.reduceAdd, Nat.zero_add] <;> rfl))
      | ((with_reducible (first | apply r_move | apply r_assign)); (focus (simp only [Tget_set, Nat.reduceEqDiff, ↓reduceIte, ht6, ht7] <;> rfl)); (focus (exact Nat.le_of_ble_eq_true rfl)))
      | ((with_reducible apply r_condT); (focus (simp only [Tget_set, ↓reduceIte] <;> rfl)))
      | ((with_reducible (first | apply r_any | apply r_cond)); focus (simp only [↓reduceIte, clsOf, clsCall, Fr.ev, evs, ofV, ofA, ofS, put_mk, pureOp, readOp, pBin, binA, intOp_gtr, List.getElem?_cons_zero, Nat.reduceLT, callTo_s, heavyCall, target, List.nil_append, List.append_nil, binA, decide_false, stepOp, stHeavy, stV_mk, stO_mk, stepAny, wantedA_none, rCall, rLen, Tget_set, hlk, kb_fn, KBf, Int.lt_irrefl] <;> rfl))
      | (with_reducible rw [ifQ_t])
      | (with_reducible rw [ifQ_f])
      | (with_reducible refine ifQ_intro ?_ ?_ <;> intro hb))
      subst hQ
      refine ret_back (by simp only [Tryz.results7, resultOf, resultsA, resultA, List.toList_toArray, Fr.ev, Tget_set, ↓reduceIte] <;> rfl) ?_
      exact hQf _ lc _ hw hS (by rw [← hdone, List.mergeSort_nil]; exact IL.nil)
    · have hri : rowInts (hget h1 (ky F c)) = some out := by rw [hg]; exact rowInts_eq rfl
      repeat' (first
      | with_reducible refine r_seq ?_
      | with_reducible refine r_next ?_
      | with_reducible refine r_block ?_
      | with_reducible refine r_seq_exit ?_
      | with_reducible refine r_seq_ret ?_
      | with_reducible refine r_blk_n ?_
      | with_reducible refine r_blk_ret ?_
      | with_reducible refine r_blk_hit ?_
      | with_reducible refine r_blk_miss rfl ?_
      | with_reducible refine r_skip ?_
      | with_reducible refine r_exit ?_
      | with_reducible refine r_ret ?_
      | with_reducible refine r_rq_exit ?_
      | with_reducible refine r_rq_ret ?_
      | ((with_reducible apply r_regA); (focus (simp only [List.append_eq, List.cons_append, List.nil_append] <;> rfl)); (focus (first | exact Nat.le_of_ble_eq_true rfl | (simp only [List.length_cons, List.length_nil]; omega))))
      | ((with_reducible refine r_reg (List.toList_toArray) ?_ ?_); focus (first | exact Nat.le_of_ble_eq_true rfl | (simp only [List.length_cons, List.length_nil]; omega)))
      | ((with_reducible apply r_drawL); (focus kernel_rfl); (focus kernel_rfl); (focus (first | exact Nat.le_of_ble_eq_true rfl | (simp only [List.length_cons, List.length_nil]; omega))))
      | ((with_reducible apply r_end); focus (simp only [Nat.add_assoc, Nat.reduceAdd, Nat.zero_add] <;> rfl))
      | ((with_reducible (first | apply r_move | apply r_assign)); (focus (simp only [Tget_set, Nat.reduceEqDiff, ↓reduceIte, ht6, ht7] <;> rfl)); (focus (exact Nat.le_of_ble_eq_true rfl)))
      | ((with_reducible apply r_condT); (focus (simp only [Tget_set, ↓reduceIte] <;> rfl)))
      | ((with_reducible (first | apply r_any | apply r_cond)); focus (simp only [↓reduceIte, clsOf, clsCall, Fr.ev, evs, ofV, ofA, ofS, put_mk, pureOp, readOp, pBin, binA, intOp_gtr, List.getElem?_cons_zero, Nat.reduceLT, and_self, callTo_s, heavyCall, target, List.nil_append, List.append_nil, binA, decide_false, stepOp, stHeavy, stV_mk, stO_mk, stepAny, wantedA_none, rCall, rLen, Tget_set, hlk, Int.lt_irrefl, kb_fn, KBf, hri, hpos, (show out.length ≤ 1000000 by omega)] <;> rfl))
      | (with_reducible rw [ifQ_t])
      | (with_reducible rw [ifQ_f])
      | (with_reducible refine ifQ_intro ?_ ?_ <;> intro hb))
      subst hQ
      refine ret_back (by simp only [Tryz.results7, resultOf, resultsA, resultA, List.toList_toArray, Fr.ev, Tget_set, ↓reduceIte] <;> rfl) ?_
      refine hQf _ lc _ hw (SameH.hset hw hS (ky_le _ _)) (.inr ⟨?_, c, hc1, ?_, ?_⟩)
      · rw [← hdone, List.length_mergeSort]; exact hpos
      · rw [← hdone, List.length_mergeSort]
      · rw [hget_hset, if_pos rfl, ← hdone]; rfl

end Go.Proofs.YtgjddbcnnelgpaaGreatDoor
