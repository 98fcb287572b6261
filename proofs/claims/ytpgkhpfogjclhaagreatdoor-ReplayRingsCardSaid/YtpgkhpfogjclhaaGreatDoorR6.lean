/- A part of the proof of the law ReplayRings. CONDITIONS: those that each theorem names. -/
import Derived.Test.YtpgkhpfogjclhaaGreatDoorR5
namespace Go.Proofs.YtpgkhpfogjclhaaGreatDoor
open Go Go.Ai
set_option maxRecDepth 100000

theorem il_setb {h : Heap} {F lc k : Nat} {l : AV} {zs : List Int} {b : List Bool} {b' : AB} (hi : IL h F lc l zs) (hk : hget h k = some (bRow b)) : IL (hset h k b') F lc l zs := by
  rcases hi with c | ⟨hp, c, h1, h2, h3⟩
  · exact .inl c
  · refine .inr ⟨hp, c, h1, h2, ?_⟩
    rw [hget_hset, if_neg]
    · exact h3
    · intro e
      rw [← e, h3] at hk
      exact ints_bools hp (Option.some.inj hk)
theorem il_rlen {t e : TypeId} {h h2 : Heap} {F lc : Nat} {l : AV} {zs : List Int} (hu : Tryz.prog.underlying t = some (.slice e)) (hi : IL h F lc l zs) : rLen1 Tryz.prog h2 t (some l) = some (.int .i64 (zs.length : Int)) := by
  rcases hi with ⟨rfl, rfl⟩ | ⟨hp, c, h1, rfl, h3⟩
  · simp only [rLen1, lenA, hu]; rfl
  · rw [rLen1_sl]; simp only [lenA, hu]
structure FI (n : Nat) (E : List (Int × Int)) (D : List Bool) (v i : Nat) (fl : Bool) : Prop where
  yes : fl = true → D[v]? = some false ∧ ∀ e ∈ E.take i, 0 ≤ e.1 ∧ e.1 < (n : Int) ∧ e.2 = (v : Int) → D[e.1.toNat]? = some true
  no : fl = false → ¬ free n E D v
section
variable {n : Nat} {E : List (Int × Int)} {D : List Bool} {v i : Nat} {fl : Bool} {x y : Int}
theorem FI.init {b : Bool} (hb : D[v]? = some b) : FI n E D v 0 (!b) := by
  cases b with
  | true => exact ⟨fun h => (by cases h), fun _ hf => absurd (hb.symm.trans hf.1) (by simp)⟩
  | false => exact ⟨fun _ => ⟨hb, by simp⟩, fun h => (by cases h)⟩
theorem FI.skip (p : FI n E D v i true) (he : E[i]? = some (x, y)) (hs : 0 ≤ x ∧ x < (n : Int) ∧ y = (v : Int) → D[x.toNat]? = some true) : FI n E D v (i + 1) true := by
  refine ⟨fun h => ⟨(p.yes rfl).1, fun e hx => ?_⟩, fun h => (by cases h)⟩
  rw [List.take_add_one, he] at hx
  rcases List.mem_append.1 hx with hx | hx
  · exact (p.yes rfl).2 e hx
  · simp only [Option.toList_some, List.mem_singleton] at hx; subst hx; exact hs
theorem FI.stop (p : FI n E D v i true) (he : E[i]? = some (x, y)) (h1 : 0 ≤ x) (h2 : x < (n : Int)) (h3 : y = (v : Int)) (h4 : v < n) (hd : D[x.toNat]? = some false) : FI n E D v (i + 1) false := by
  refine ⟨fun h => (by cases h), fun _ hf => ?_⟩
  have := hf.2 x.toNat ⟨?_, by omega, h4⟩
  · rw [hd] at this; cases this
  · have hm := List.mem_of_getElem? he
    rw [h3] at hm
    rw [show ((x.toNat : Nat) : Int) = x by omega]
    exact hm
theorem FI.fin (p : FI n E D v i fl) (h : fl = true) (hi : E.length ≤ i) (hv : v < n) : free n E D v := by
  obtain ⟨h1, h2⟩ := p.yes h
  refine ⟨h1, fun u hu => ?_⟩
  rw [List.take_of_length_le hi] at h2
  have := h2 _ hu.1 ⟨by simp, by simp; exact hu.2.1, rfl⟩
  simpa using this
end
noncomputable def ordOk (n : Nat) (E : List (Int × Int)) : Bool := (ordN n E n).isSome
noncomputable def ordL (n : Nat) (E : List (Int × Int)) : List Int := match ordN n E n with
  | some (_, o) => o
  | none => []
theorem ord_no {n : Nat} {E : List (Int × Int)} (h : ordN n E n = none) : ordOk n E = false ∧ ordL n E = [] := by simp [ordOk, ordL, h]
theorem ord_yes {n : Nat} {E : List (Int × Int)} {D : List Bool} {o : List Int} (h : ordN n E n = some (D, o)) : ordOk n E = true ∧ ordL n E = o := by simp [ordOk, ordL, h]
def S12 (R : List Int) : FuncId → List AV → St → Out → Prop
  | 15, _, s, o => ∃ v h', o = .val v ⟨h', s.fc + 1⟩ ∧ Low s.fc s.h h' ∧ SameH s.h h' ∧ LstI s.fc (s.fc + 1) h' ksN v (iL R)
  | _, _, _, _ => True
set_option maxHeartbeats 8000000 in
theorem order12 (h : Heap) (F : Nat) (n : Int) (a : AV) (L : List (List AV)) (hA : LstP h ksE a L) (hn : n ≤ 50) (hL : L.length ≤ 300) :
    SndQ Tryz.prog [] 12 [.int .i64 n, a] ⟨h, F⟩ (fun o => ∃ v h', o = .val (.tup [v, .bool (ordOk n.toNat (edgesL L))]) ⟨h', F + 1 + 1⟩ ∧ Low F h h' ∧ SameH h h' ∧ LstI F (F + 1) h' ksN v (iL (ordL n.toNat (edgesL L)))) := by
  have mxl : maxLen = 9223372036854775807 := by decide
  refine sndQ_wf fun hw => ?_
  obtain ⟨N, hN⟩ : ∃ N, n.toNat = N := ⟨_, rfl⟩
  obtain ⟨E, hE⟩ : ∃ E, edgesL L = E := ⟨_, rfl⟩
  have hEl : E.length = L.length := by rw [← hE, edgesL_len]
  have hNl : N ≤ 50 := by omega
  have hA0 : LstI 0 F h ksE a L := hA.below hw (by decide)
  refine sndQ_body (K := KU Tryz.prog [] (S12 (ringsL N E))) ku_ok mixed noNum (m := 100001) Tryz.func12 ?_
  generalize hQ : retQ _ _ _ _ _ _ = Q0
  refine body_go (c := Tryz.f12.body.getD .skip) (n := 81) rfl rfl (by simp only [↓reduceIte, T.setList, T.set_e, T.set_n, Nat.reduceDiv, Nat.reduceMod, Nat.reduceEqDiff, Nat.zero_add] <;> rfl) ?_
  simp only [Tryz.f12, Option.getD_some]
  repeat' (first
  | with_reducible refine r_seq ?_
  | with_reducible refine r_next ?_
  | with_reducible refine r_block ?_
  | with_reducible refine r_seq_exit ?_
  | with_reducible refine r_seq_ret ?_
  | with_reducible refine r_blk_n ?_
  | with_reducible refine r_blk_ret ?_
  | with_reducible refine r_blk_hit ?_
  | with_reducible refine r_blk_miss rfl ?_
  | with_reducible refine r_skip ?_
  | with_reducible refine r_exit ?_
  | with_reducible refine r_ret ?_
  | with_reducible refine r_rq_exit ?_
  | with_reducible refine r_rq_ret ?_
  | ((with_reducible apply r_regA); (focus (simp only [List.append_eq, List.cons_append, List.nil_append] <;> rfl)); (focus (first | exact Nat.le_of_ble_eq_true rfl | (simp only [List.length_cons, List.length_nil]; omega))))
  | ((with_reducible refine r_reg (List.toList_toArray) ?_ ?_); focus (first | exact Nat.le_of_ble_eq_true rfl | (simp only [List.length_cons, List.length_nil]; omega)))
  | ((with_reducible apply r_drawL); (focus kernel_rfl); (focus kernel_rfl); (focus (first | exact Nat.le_of_ble_eq_true rfl | (simp only [List.length_cons, List.length_nil]; omega))))
  | ((with_reducible apply r_end); focus (simp only [Nat.reduceAdd, Nat.zero_add] <;> rfl))
  | ((with_reducible (first | apply r_move | apply r_assign)); (focus (simp only [Tget_set, T.get_n, Nat.reduceEqDiff, Nat.reduceDiv, Nat.reduceMod, ↓reduceIte] <;> rfl)); (focus (exact Nat.le_of_ble_eq_true rfl)))
  | ((with_reducible apply r_condT); (focus (simp only [Tget_set, T.get_n, T.get_e, Nat.reduceEqDiff, Nat.reduceDiv, Nat.reduceMod, Nat.reduceSub, ↓reduceIte, if_true, if_false] <;> rfl)))
  | ((with_reducible (first | apply r_any | apply r_cond)); focus (simp only [↓reduceIte, clsOf, clsCall, Fr.ev, evs, ofV, ofA, ofS, put_mk, pureOp, Nat.reduceLT, Nat.reduceEqDiff, Nat.reduceSub, callTo_s, heavyCall, target, List.nil_append, List.append_nil, stepOp, stHeavy, stV_mk, T.get_n, T.set_n, T.set_e, Nat.reduceDiv, Nat.reduceMod, stepAny, wantedA_none] <;> rfl))
  | (with_reducible rw [ifQ_t])
  | (with_reducible rw [ifQ_f])
  | (with_reducible refine ifQ_intro ?_ ?_ <;> intro hb))
  refine r_callQ (f := 15) (by simp only [↓reduceIte, Nat.reduceEqDiff, Nat.reduceSub, T.set_n, T.set_e, Nat.reduceDiv, Nat.reduceMod, wantedA_none] <;> rfl) (by simp only [callOuts, ku_fn, callTo_s, target, ↓reduceIte, Fr.ev, evs, Nat.reduceEqDiff, Nat.reduceSub, callTo_s, target, List.nil_append, List.append_nil, T.get_n, T.set_n, T.set_e, Nat.reduceDiv, Nat.reduceMod] <;> rfl) ?_ ?_
  · have := rings15 h (F + 1) n a L hA hn hL
    rw [hN, hE] at this
    exact this
  rintro o ⟨g, h1, rfl, hlow1, hsame1, hg1⟩
  refine ⟨_, by simp only [put_mk, Nat.reduceLT, ↓reduceIte] <;> rfl, ?_⟩
  simp only [] at hlow1 hg1
  have hgl := rLen1_L (h2 := h1) Tryz.underlying38 hg1.p
  rw [iL_len] at hgl
  by_cases hR : 0 < (ringsL N E).length
  · have hgt : decide ((0 : Int) < (((ringsL N E).length : Nat) : Int)) = true := decide_eq_true (by omega)
    repeat' (first
    | with_reducible refine r_seq ?_
    | with_reducible refine r_next ?_
    | with_reducible refine r_block ?_
    | with_reducible refine r_seq_exit ?_
    | with_reducible refine r_seq_ret ?_
    | with_reducible refine r_blk_n ?_
    | with_reducible refine r_blk_ret ?_
    | with_reducible refine r_blk_hit ?_
    | with_reducible refine r_blk_miss rfl ?_
    | with_reducible refine r_skip ?_
    | with_reducible refine r_exit ?_
    | with_reducible refine r_ret ?_
    | with_reducible refine r_rq_exit ?_
    | with_reducible refine r_rq_ret ?_
    | ((with_reducible apply r_regA); (focus (simp only [List.append_eq, List.cons_append, List.nil_append] <;> rfl)); (focus (first | exact Nat.le_of_ble_eq_true rfl | (simp only [List.length_cons, List.length_nil]; omega))))
    | ((with_reducible refine r_reg (List.toList_toArray) ?_ ?_); focus (first | exact Nat.le_of_ble_eq_true rfl | (simp only [List.length_cons, List.length_nil]; omega)))
    | ((with_reducible apply r_drawL); (focus kernel_rfl); (focus kernel_rfl); (focus (first | exact Nat.le_of_ble_eq_true rfl | (simp only [List.length_cons, List.length_nil]; omega))))
    | ((with_reducible apply r_end); focus (simp only [Nat.reduceAdd, Nat.zero_add] <;> rfl))
    | ((with_reducible (first | apply r_move | apply r_assign)); (focus (simp only [Tget_set, T.get_n, T.get_e, Nat.reduceEqDiff, Nat.reduceDiv, Nat.reduceMod, Nat.reduceSub, ↓reduceIte, if_true, if_false] <;> rfl)); (focus (exact Nat.le_of_ble_eq_true rfl)))
    | ((with_reducible apply r_condT); (focus (simp only [T.get_n, Nat.reduceEqDiff, Nat.reduceDiv, Nat.reduceMod, Nat.reduceSub, ↓reduceIte] <;> rfl)))
    | ((with_reducible (first | apply r_any | apply r_cond)); focus (simp only [↓reduceIte, clsOf, clsCall, Fr.ev, ofV, ofA, ofS, put_mk, pureOp, readOp, pBin, binA, intOp_gtr, List.getElem?_cons_zero, Nat.reduceLT, Nat.reduceEqDiff, Nat.reduceSub, binA, stepOp, stV_mk, T.get_n, T.set_n, T.set_e, Nat.reduceDiv, Nat.reduceMod, stepAny, wantedA_none, rCall, rLen, hgl, hgt] <;> rfl))
    | (with_reducible rw [ifQ_t])
    | (with_reducible rw [ifQ_f])
    | (with_reducible refine ifQ_intro ?_ ?_ <;> intro hb))
    subst hQ
    refine ret_back (by simp only [Tryz.results12, resultOf, resultsA, resultA, List.toList_toArray, Fr.ev, T.get_n, Nat.reduceDiv, Nat.reduceMod, Nat.reduceSub, Nat.reduceEqDiff, ↓reduceIte] <;> rfl) ?_
    have hno := ord_no (ordN_ring (n := N) (E := E) (fun q => by rw [q] at hR; cases hR))
    rw [hN, hE, hno.1, hno.2]
    have hlow := hlow1.down (show F ≤ F + 1 by omega)
    exact ⟨_, _, rfl, hlow, hlow.same hw, il_lstI (lc := 0) IL.nil (by simp) (by simp) (by omega)⟩
  have hgt : decide ((0 : Int) < (((ringsL N E).length : Nat) : Int)) = false := decide_eq_false (by omega)
  have hR0 : ringsL N E = [] := List.length_eq_zero_iff.1 (by omega)
  have hlow1' := hlow1.down (show F ≤ F + 1 by omega)
  by_cases hneg : n < 0
  · have hN0 : N = 0 := by omega
    subst hN0
    have nm0 : ∀ key : Nat, nMS Tryz.prog key (some (.slice 4)) (some (.int .i64 (0 : Int))) (some (.int .i64 (0 : Int))) = some (.slice key 0 0 0 (some 0), bRow []) := fun key => nMS_b (n := 0) sz4 by4 zr4 (by omega) (by omega)
    repeat' (first
    | with_reducible refine r_seq ?_
    | with_reducible refine r_next ?_
    | with_reducible refine r_block ?_
    | with_reducible refine r_seq_exit ?_
    | with_reducible refine r_seq_ret ?_
    | with_reducible refine r_blk_n ?_
    | with_reducible refine r_blk_ret ?_
    | with_reducible refine r_blk_hit ?_
    | with_reducible refine r_blk_miss rfl ?_
    | with_reducible refine r_skip ?_
    | with_reducible refine r_exit ?_
    | with_reducible refine r_ret ?_
    | with_reducible refine r_rq_exit ?_
    | with_reducible refine r_rq_ret ?_
    | ((with_reducible apply r_regA); (focus (simp only [List.append_eq, List.cons_append, List.nil_append] <;> rfl)); (focus (first | exact Nat.le_of_ble_eq_true rfl | (simp only [List.length_cons, List.length_nil]; omega))))
    | ((with_reducible refine r_reg (List.toList_toArray) ?_ ?_); focus (first | exact Nat.le_of_ble_eq_true rfl | (simp only [List.length_cons, List.length_nil]; omega)))
    | ((with_reducible apply r_drawL); (focus kernel_rfl); (focus kernel_rfl); (focus (first | exact Nat.le_of_ble_eq_true rfl | (simp only [List.length_cons, List.length_nil]; omega))))
    | ((with_reducible apply r_end); focus (simp only [Nat.reduceAdd, Nat.zero_add] <;> rfl))
    | ((with_reducible (first | apply r_move | apply r_assign)); (focus (simp only [T.get_n, Nat.reduceEqDiff, Nat.reduceDiv, Nat.reduceMod, Nat.reduceSub, ↓reduceIte] <;> rfl)); (focus (exact Nat.le_of_ble_eq_true rfl)))
    | ((with_reducible apply r_condT); (focus (simp only [T.get_n, Nat.reduceEqDiff, Nat.reduceDiv, Nat.reduceMod, Nat.reduceSub, ↓reduceIte] <;> rfl)))
    | ((with_reducible (first | apply r_any | apply r_cond)); focus (simp only [↓reduceIte, clsOf, clsCall, newBlk, allocOp, Fr.ev, ofV, ofA, ofS, put_mk, upd_mk, keyOf_mk, pureOp, readOp, pBin, binA, intOp_lss, intOp_gtr, List.getElem?_cons_zero, Nat.zero_add, Nat.reduceAdd, Nat.reduceLT, Nat.reduceEqDiff, Nat.reduceSub, binA, stepOp, stV_mk, stB_mk, T.get_n, T.set_n, T.set_e, Nat.reduceDiv, Nat.reduceMod, Tryz.underlying81, stepAny, wantedA_none, rCall, rLen, hgl, hgt, ls_t hneg, nm0] <;> rfl))
    | (with_reducible rw [ifQ_t])
    | (with_reducible rw [ifQ_f])
    | (with_reducible refine ifQ_intro ?_ ?_ <;> intro hb))
    refine r_loop (I := fun nn fr s1 => ∃ lc tt h2, fr = ⟨F, lc, 81, tt, [], .no⟩ ∧ s1 = ⟨h2, F + 1 + 1⟩ ∧ lc ≤ 1000 ∧ tt.get 0 = some (.int .i64 0) ∧ tt.get 6 = some .nils ∧ Low F h h2) (n := 0) ?_ ?_ ?_
    · omega
    · exact ⟨_, _, _, rfl, rfl, by omega, (by first | (simp only [Tget_set, T.get_n, Nat.reduceEqDiff, ↓reduceIte] <;> rfl) | rfl), (by first | (simp only [Tget_set, T.get_n, Nat.reduceEqDiff, Nat.reduceDiv, Nat.reduceMod, Nat.reduceSub, ↓reduceIte] <;> rfl) | rfl), hlow1'.set (Nat.le_refl F)⟩
    rintro nn fr s1 ⟨lc, tt, h2, rfl, rfl, hl0, u0, u6, hlow⟩
    have hln : rLen1 Tryz.prog h2 38 (some .nils) = some (.int .i64 (0 : Int)) := il_rlen Tryz.underlying38 (IL.nil (h := h2) (F := F) (lc := 0))
    repeat' (first
    | with_reducible refine r_seq ?_
    | with_reducible refine r_next ?_
    | with_reducible refine r_block ?_
    | with_reducible refine r_seq_exit ?_
    | with_reducible refine r_seq_ret ?_
    | with_reducible refine r_blk_n ?_
    | with_reducible refine r_blk_ret ?_
    | with_reducible refine r_blk_hit ?_
    | with_reducible refine r_blk_miss rfl ?_
    | with_reducible refine r_skip ?_
    | with_reducible refine r_exit ?_
    | with_reducible refine r_ret ?_
    | with_reducible refine r_rq_exit ?_
    | with_reducible refine r_rq_ret ?_
    | ((with_reducible apply r_regA); (focus (simp only [List.append_eq, List.cons_append, List.nil_append] <;> rfl)); (focus (first | exact Nat.le_of_ble_eq_true rfl | (simp only [List.length_cons, List.length_nil]; omega))))
    | ((with_reducible refine r_reg (List.toList_toArray) ?_ ?_); focus (first | exact Nat.le_of_ble_eq_true rfl | (simp only [List.length_cons, List.length_nil]; omega)))
    | ((with_reducible apply r_drawL); (focus kernel_rfl); (focus kernel_rfl); (focus (first | exact Nat.le_of_ble_eq_true rfl | (simp only [List.length_cons, List.length_nil]; omega))))
    | ((with_reducible apply r_end); focus (simp only [Nat.add_assoc, Nat.reduceAdd, Nat.zero_add] <;> rfl))
    | ((with_reducible (first | apply r_move | apply r_assign)); (focus (simp only [Tget_set, Nat.reduceEqDiff, ↓reduceIte, u0, u6] <;> rfl)); (focus (exact Nat.le_of_ble_eq_true rfl)))
    | ((with_reducible apply r_condT); (focus (simp only [Tget_set, ↓reduceIte] <;> rfl)))
    | ((with_reducible (first | apply r_any | apply r_cond)); focus (simp only [↓reduceIte, clsOf, clsCall, Fr.ev, ofV, ofA, ofS, put_mk, pureOp, readOp, pBin, binA, intOp_lss, List.getElem?_cons_zero, Nat.reduceLT, Nat.reduceEqDiff, binA, decide_false, stepOp, stV_mk, stepAny, wantedA_none, rCall, rLen, Tget_set, hln, Int.lt_irrefl] <;> rfl))
    | (with_reducible rw [ifQ_t])
    | (with_reducible rw [ifQ_f])
    | (with_reducible refine ifQ_intro ?_ ?_ <;> intro hb))
    subst hQ
    refine ret_back (by simp only [Tryz.results12, resultOf, resultsA, resultA, List.toList_toArray, Fr.ev, Tget_set, Nat.reduceEqDiff, ↓reduceIte] <;> rfl) ?_
    have hyes := ord_yes (n := 0) (E := E) rfl
    rw [hN, hE, hyes.1, hyes.2]
    exact ⟨_, _, rfl, hlow, hlow.same hw, il_lstI (lc := 0) IL.nil (by simp) (by simp) (by omega)⟩
  obtain rfl : n = (N : Int) := by omega
  repeat' (first
  | with_reducible refine r_seq ?_
  | with_reducible refine r_next ?_
  | with_reducible refine r_block ?_
  | with_reducible refine r_seq_exit ?_
  | with_reducible refine r_seq_ret ?_
  | with_reducible refine r_blk_n ?_
  | with_reducible refine r_blk_ret ?_
  | with_reducible refine r_blk_hit ?_
  | with_reducible refine r_blk_miss rfl ?_
  | with_reducible refine r_skip ?_
  | with_reducible refine r_exit ?_
  | with_reducible refine r_ret ?_
  | with_reducible refine r_rq_exit ?_
  | with_reducible refine r_rq_ret ?_
  | ((with_reducible apply r_regA); (focus (simp only [List.append_eq, List.cons_append, List.nil_append] <;> rfl)); (focus (first | exact Nat.le_of_ble_eq_true rfl | (simp only [List.length_cons, List.length_nil]; omega))))
  | ((with_reducible refine r_reg (List.toList_toArray) ?_ ?_); focus (first | exact Nat.le_of_ble_eq_true rfl | (simp only [List.length_cons, List.length_nil]; omega)))
  | ((with_reducible apply r_drawL); (focus kernel_rfl); (focus kernel_rfl); (focus (first | exact Nat.le_of_ble_eq_true rfl | (simp only [List.length_cons, List.length_nil]; omega))))
  | ((with_reducible apply r_end); focus (simp only [Nat.reduceAdd, Nat.zero_add] <;> rfl))
  | ((with_reducible (first | apply r_move | apply r_assign)); (focus (simp only [T.get_n, Nat.reduceEqDiff, Nat.reduceDiv, Nat.reduceMod, Nat.reduceSub, ↓reduceIte] <;> rfl)); (focus (exact Nat.le_of_ble_eq_true rfl)))
  | ((with_reducible apply r_condT); (focus (simp only [T.get_n, Nat.reduceEqDiff, Nat.reduceDiv, Nat.reduceMod, Nat.reduceSub, ↓reduceIte] <;> rfl)))
  | ((with_reducible (first | apply r_any | apply r_cond)); focus (simp only [↓reduceIte, clsOf, clsCall, newBlk, allocOp, Fr.ev, ofV, ofA, ofS, put_mk, upd_mk, keyOf_mk, pureOp, readOp, pBin, binA, intOp_lss, intOp_gtr, List.getElem?_cons_zero, Nat.zero_add, Nat.reduceAdd, Nat.reduceLT, Nat.reduceEqDiff, Nat.reduceSub, binA, stepOp, stV_mk, stB_mk, T.get_n, T.set_n, T.set_e, Nat.reduceDiv, Nat.reduceMod, Tryz.underlying81, stepAny, wantedA_none, rCall, rLen, hgl, hgt, ls_f hneg, nMS_b sz4 by4 zr4 (show 1 * N ≤ 1073741824 by omega) (show N ≤ 1073741824 by omega)] <;> rfl))
  | (with_reducible rw [ifQ_t])
  | (with_reducible rw [ifQ_f])
  | (with_reducible refine ifQ_intro ?_ ?_ <;> intro hb))
  refine r_loop (I := fun nn fr s1 => ∃ lc tt h2 k D o lo, fr = ⟨F, lc, 81, tt, [], .no⟩ ∧ s1 = ⟨h2, F + 1 + 1⟩ ∧ k ≤ N ∧ nn = N - k ∧ 12 ≤ lc ∧ lc + nn * 1000000000 ≤ 100000000000000000000000000 ∧ tt.get 0 = some (.int .i64 (N : Int)) ∧ tt.get 1 = some a ∧ tt.get 6 = some lo ∧ tt.get 7 = some (.slice (ky F 11) 0 0 N (some N)) ∧ Low F h h2 ∧ hget h2 (ky F 11) = some (bRow D) ∧ ordN N E k = some (D, o) ∧ IL h2 F lc lo o) (n := N) ?_ ?_ ?_
  · omega
  · exact ⟨_, _, _, 0, List.replicate N false, [], .nils, rfl, rfl, Nat.zero_le _, (Nat.sub_zero _).symm, by omega, by omega, (by first | (simp only [Tget_set, T.get_n, Nat.reduceEqDiff, ↓reduceIte] <;> rfl) | rfl), (by first | (simp only [Tget_set, T.get_n, Nat.reduceEqDiff, Nat.reduceDiv, Nat.reduceMod, ↓reduceIte] <;> rfl) | rfl), (by first | (simp only [Tget_set, T.get_n, Nat.reduceEqDiff, Nat.reduceDiv, Nat.reduceMod, Nat.reduceSub, ↓reduceIte] <;> rfl) | rfl), (by first | (simp only [Tget_set, ↓reduceIte] <;> rfl) | rfl), hlow1'.set (Nat.le_refl F), by rw [hget_hset, if_pos rfl], rfl, IL.nil⟩
  rintro nn fr s1 ⟨lc, tt, h2, k, D, o, lo, rfl, rfl, hk, rfl, hl0, hlc, u0, u1, u6, u7, hlow, hrow, hD, hI⟩
  have hOI := ordN_inv hD
  have hol := hOI.size
  have hDl := hOI.len
  have hlen : rLen1 Tryz.prog h2 38 (some lo) = some (.int .i64 (k : Int)) := by rw [← hol]; exact il_rlen Tryz.underlying38 hI
  by_cases hkN : k < N
  · obtain ⟨v0, hv0⟩ := next_of_noring hOI hkN hR0
    obtain ⟨g1, g2, _⟩ := nextF_some hv0
    repeat' (first
    | with_reducible refine r_seq ?_
    | with_reducible refine r_next ?_
    | with_reducible refine r_block ?_
    | with_reducible refine r_seq_exit ?_
    | with_reducible refine r_seq_ret ?_
    | with_reducible refine r_blk_n ?_
    | with_reducible refine r_blk_ret ?_
    | with_reducible refine r_blk_hit ?_
    | with_reducible refine r_blk_miss rfl ?_
    | with_reducible refine r_skip ?_
    | with_reducible refine r_exit ?_
    | with_reducible refine r_ret ?_
    | with_reducible refine r_rq_exit ?_
    | with_reducible refine r_rq_ret ?_
    | ((with_reducible apply r_regA); (focus (simp only [List.append_eq, List.cons_append, List.nil_append] <;> rfl)); (focus (first | exact Nat.le_of_ble_eq_true rfl | (simp only [List.length_cons, List.length_nil]; omega))))
    | ((with_reducible refine r_reg (List.toList_toArray) ?_ ?_); focus (first | exact Nat.le_of_ble_eq_true rfl | (simp only [List.length_cons, List.length_nil]; omega)))
    | ((with_reducible apply r_drawL); (focus kernel_rfl); (focus kernel_rfl); (focus (first | exact Nat.le_of_ble_eq_true rfl | (simp only [List.length_cons, List.length_nil]; omega))))
    | ((with_reducible apply r_end); focus (simp only [Nat.add_assoc, Nat.reduceAdd, Nat.zero_add] <;> rfl))
    | ((with_reducible (first | apply r_move | apply r_assign)); (focus (simp only [Tget_set, Nat.reduceEqDiff, ↓reduceIte, u0, u6] <;> rfl)); (focus (exact Nat.le_of_ble_eq_true rfl)))
    | ((with_reducible apply r_condT); (focus (simp only [Tget_set, ↓reduceIte] <;> rfl)))
    | ((with_reducible (first | apply r_any | apply r_cond)); focus (simp only [↓reduceIte, clsOf, clsCall, Fr.ev, ofV, ofA, ofS, put_mk, pureOp, readOp, pBin, binA, intOp_lss, List.getElem?_cons_zero, Nat.reduceLT, Nat.reduceEqDiff, binA, stepOp, stV_mk, stepAny, wantedA_none, rCall, rLen, Tget_set, hlen, lt_t hkN] <;> rfl))
    | (with_reducible rw [ifQ_t])
    | (with_reducible rw [ifQ_f])
    | (with_reducible refine ifQ_intro ?_ ?_ <;> intro hb))
    refine r_loop (I := fun nn fr s1 => ∃ lc3 tt3 v, fr = ⟨F, lc3, 81, tt3, [], .no⟩ ∧ s1 = ⟨h2, F + 1 + 1⟩ ∧ v ≤ N ∧ nn = N - v ∧ lc ≤ lc3 ∧ lc3 + nn * 1000000 ≤ lc + 900000000 ∧ tt3.get 0 = some (.int .i64 (N : Int)) ∧ tt3.get 1 = some a ∧ tt3.get 6 = some lo ∧ tt3.get 7 = some (.slice (ky F 11) 0 0 N (some N)) ∧ tt3.get 8 = some (.int .i64 (v : Int)) ∧ ∀ w, w < v → ¬ free N E D w) (n := N) ?_ ?_ ?_
    · omega
    · exact ⟨_, _, 0, rfl, rfl, Nat.zero_le _, (Nat.sub_zero _).symm, by omega, by omega, (by first | (simp only [Tget_set, Nat.reduceEqDiff, ↓reduceIte, u0] <;> rfl) | rfl), (by first | (simp only [Tget_set, Nat.reduceEqDiff, ↓reduceIte, u1] <;> rfl) | rfl), (by first | (simp only [Tget_set, Nat.reduceEqDiff, ↓reduceIte, u6] <;> rfl) | rfl), (by first | (simp only [Tget_set, Nat.reduceEqDiff, ↓reduceIte, u7] <;> rfl) | rfl), (by first | (simp only [Tget_set, ↓reduceIte] <;> rfl) | rfl), fun w hw => by omega⟩
    rintro nn fr s1 ⟨lc3, tt3, v, rfl, rfl, hv, rfl, hl3, hlc3, w0, w1, w6, w7, w8, hno⟩
    by_cases hvl : v < N
    · obtain ⟨vD, hvD⟩ : ∃ w, D[v]? = some w := ⟨D[v]'(by omega), by simp⟩
      have rdv := rd_b hvD
      repeat' (first
      | with_reducible refine r_seq ?_
      | with_reducible refine r_next ?_
      | with_reducible refine r_block ?_
      | with_reducible refine r_seq_exit ?_
      | with_reducible refine r_seq_ret ?_
      | with_reducible refine r_blk_n ?_
      | with_reducible refine r_blk_ret ?_
      | with_reducible refine r_blk_hit ?_
      | with_reducible refine r_blk_miss rfl ?_
      | with_reducible refine r_skip ?_
      | with_reducible refine r_exit ?_
      | with_reducible refine r_ret ?_
      | with_reducible refine r_rq_exit ?_
      | with_reducible refine r_rq_ret ?_
      | ((with_reducible apply r_regA); (focus (simp only [List.append_eq, List.cons_append, List.nil_append] <;> rfl)); (focus (first | exact Nat.le_of_ble_eq_true rfl | (simp only [List.length_cons, List.length_nil]; omega))))
      | ((with_reducible refine r_reg (List.toList_toArray) ?_ ?_); focus (first | exact Nat.le_of_ble_eq_true rfl | (simp only [List.length_cons, List.length_nil]; omega)))
      | ((with_reducible apply r_drawL); (focus kernel_rfl); (focus kernel_rfl); (focus (first | exact Nat.le_of_ble_eq_true rfl | (simp only [List.length_cons, List.length_nil]; omega))))
      | ((with_reducible apply r_end); focus (simp only [Nat.add_assoc, Nat.reduceAdd, Nat.zero_add] <;> rfl))
      | ((with_reducible (first | apply r_move | apply r_assign)); (focus (simp only [Tget_set, Nat.reduceEqDiff, ↓reduceIte] <;> rfl)); (focus (exact Nat.le_of_ble_eq_true rfl)))
      | ((with_reducible apply r_condT); (focus (simp only [Tget_set, ↓reduceIte] <;> rfl)))
      | ((with_reducible (first | apply r_any | apply r_cond)); focus (simp only [↓reduceIte, clsOf, Fr.ev, ofV, ofA, ofS, put_mk, pureOp, readOp, rLd, oneCell_one, pBin, binA, intOp_lss, Nat.zero_add, Nat.reduceLT, Nat.reduceEqDiff, loadA_w, loadW_s, pUn_not, binA, stepOp, stV_mk, sz4, ag4, stepAny, wantedA_none, Tget_set, w0, w7, w8, lt_t hvl, hrow, pIA_s Tryz.underlying81 sz4 hvl, rdv] <;> rfl))
      | (with_reducible rw [ifQ_t])
      | (with_reducible rw [ifQ_f])
      | (with_reducible refine ifQ_intro ?_ ?_ <;> intro hb))
      refine r_loop (I := fun nn fr s1 => ∃ lc4 tt4 i fl, fr = ⟨F, lc4, 81, tt4, [], .no⟩ ∧ s1 = ⟨h2, F + 1 + 1⟩ ∧ i ≤ L.length ∧ nn = L.length - i ∧ lc3 ≤ lc4 ∧ lc4 + nn * 1000 ≤ lc3 + 900000 ∧ tt4.get 0 = some (.int .i64 (N : Int)) ∧ tt4.get 1 = some a ∧ tt4.get 6 = some lo ∧ tt4.get 7 = some (.slice (ky F 11) 0 0 N (some N)) ∧ tt4.get 8 = some (.int .i64 (v : Int)) ∧ tt4.get 9 = some (.bool fl) ∧ tt4.get 10 = some (.int .i64 (i : Int)) ∧ FI N E D v i fl) (n := L.length) ?_ ?_ ?_
      · omega
      · exact ⟨_, _, 0, !vD, rfl, rfl, Nat.zero_le _, (Nat.sub_zero _).symm, by omega, by omega, (by first | (simp only [Tget_set, Nat.reduceEqDiff, ↓reduceIte, w0] <;> rfl) | rfl), (by first | (simp only [Tget_set, Nat.reduceEqDiff, ↓reduceIte, w1] <;> rfl) | rfl), (by first | (simp only [Tget_set, Nat.reduceEqDiff, ↓reduceIte, w6] <;> rfl) | rfl), (by first | (simp only [Tget_set, Nat.reduceEqDiff, ↓reduceIte, w7] <;> rfl) | rfl), (by first | (simp only [Tget_set, Nat.reduceEqDiff, ↓reduceIte, w8] <;> rfl) | rfl), (by first | (simp only [Tget_set, Nat.reduceEqDiff, ↓reduceIte] <;> rfl) | rfl), (by first | (simp only [Tget_set, ↓reduceIte] <;> rfl) | rfl), FI.init hvD⟩
      rintro nn fr s1 ⟨lc4, tt4, i, fl, rfl, rfl, hi, rfl, hl4, hlc4, v0, v1, v6, v7, v8, v9, v10, hFI⟩
      have LN := rLen1_L (h2 := h2) Tryz.underlying37 hA
      by_cases hil : i < L.length
      · cases fl with
        | false =>
          have hnf : ¬ free N E D v := hFI.no rfl
          repeat' (first
          | with_reducible refine r_seq ?_
          | with_reducible refine r_next ?_
          | with_reducible refine r_block ?_
          | with_reducible refine r_seq_exit ?_
          | with_reducible refine r_seq_ret ?_
          | with_reducible refine r_blk_n ?_
          | with_reducible refine r_blk_ret ?_
          | with_reducible refine r_blk_hit ?_
          | with_reducible refine r_blk_miss rfl ?_
          | with_reducible refine r_skip ?_
          | with_reducible refine r_exit ?_
          | with_reducible refine r_ret ?_
          | with_reducible refine r_rq_exit ?_
          | with_reducible refine r_rq_ret ?_
          | ((with_reducible apply r_regA); (focus (simp only [List.append_eq, List.cons_append, List.nil_append] <;> rfl)); (focus (first | exact Nat.le_of_ble_eq_true rfl | (simp only [List.length_cons, List.length_nil]; omega))))
          | ((with_reducible refine r_reg (List.toList_toArray) ?_ ?_); focus (first | exact Nat.le_of_ble_eq_true rfl | (simp only [List.length_cons, List.length_nil]; omega)))
          | ((with_reducible apply r_drawL); (focus kernel_rfl); (focus kernel_rfl); (focus (first | exact Nat.le_of_ble_eq_true rfl | (simp only [List.length_cons, List.length_nil]; omega))))
          | ((with_reducible apply r_end); focus (simp only [Nat.add_assoc, Nat.reduceAdd, Nat.zero_add] <;> rfl))
          | ((with_reducible (first | apply r_move | apply r_assign)); (focus (simp only [Tget_set, Nat.reduceEqDiff, ↓reduceIte, v1, v8, v9, v10] <;> rfl)); (focus (exact Nat.le_of_ble_eq_true rfl)))
          | ((with_reducible apply r_condT); (focus (simp only [Tget_set, ↓reduceIte] <;> rfl)))
          | ((with_reducible (first | apply r_any | apply r_cond)); focus (simp only [↓reduceIte, wantedA_eq, gBool_t, clsOf, clsCall, Fr.ev, ofV, ofA, ofS, put_mk, pureOp, readOp, pBin, binA, intOp_lss, pPick, List.getElem?_cons_zero, List.getElem?_cons_succ, Nat.reduceLT, Nat.reduceEqDiff, binA, stepOp, stV_mk, stepAny, wantedA_none, rCall, rLen, Tget_set, v9, LN, lt_t hil, intOp_add (inR_succ hvl (show N ≤ maxLen by omega))] <;> rfl))
          | (with_reducible rw [ifQ_t])
          | (with_reducible rw [ifQ_f])
          | (with_reducible refine ifQ_intro ?_ ?_ <;> intro hb))
          exact r_rq_n (k := N - (v + 1)) (by omega) ⟨_, _, v + 1, rfl, rfl, by omega, rfl, by omega, by omega, (by first | (simp only [Tget_set, Nat.reduceEqDiff, ↓reduceIte, v0] <;> rfl) | rfl), (by first | (simp only [Tget_set, Nat.reduceEqDiff, ↓reduceIte, v1] <;> rfl) | rfl), (by first | (simp only [Tget_set, Nat.reduceEqDiff, ↓reduceIte, v6] <;> rfl) | rfl), (by first | (simp only [Tget_set, Nat.reduceEqDiff, ↓reduceIte, v7] <;> rfl) | rfl), (by first | (simp only [Tget_set, ↓reduceIte] <;> rfl) | rfl), fun w hw => by
            rcases Nat.lt_or_ge w v with q | q
            · exact hno w q
            · rw [show w = v by omega]; exact hnf⟩
        | true =>
          obtain ⟨b0, o0, eo0, cap0, x, y, rfl, hb1, hb2, hxy, r0, r1, r2⟩ := edge_at (hA0.move ((EqI.refl 0 F h).call hlow (Nat.le_refl F))) hil
          rw [hE] at hxy
          by_cases hx : 0 ≤ x
          · by_cases hx2 : x < (N : Int)
            · by_cases hy : y = ((v : Nat) : Int)
              · obtain ⟨xk, rfl⟩ := Int.eq_ofNat_of_zero_le hx
                have hxN : xk < N := by omega
                have hyt : (y == ((v : Nat) : Int)) = true := beq_iff_eq.2 hy
                obtain ⟨vx, hbx⟩ : ∃ w, D[xk]? = some w := ⟨D[xk]'(by omega), by simp⟩
                have rdx := rd_b hbx
                cases vx with
                | true =>
                  have hsk : 0 ≤ (xk : Int) ∧ (xk : Int) < (N : Int) ∧ y = (v : Int) → D[(xk : Int).toNat]? = some true := fun _ => by simpa using hbx
                  repeat' (first
                  | with_reducible refine r_seq ?_
                  | with_reducible refine r_next ?_
                  | with_reducible refine r_block ?_
                  | with_reducible refine r_seq_exit ?_
                  | with_reducible refine r_seq_ret ?_
                  | with_reducible refine r_blk_n ?_
                  | with_reducible refine r_blk_ret ?_
                  | with_reducible refine r_blk_hit ?_
                  | with_reducible refine r_blk_miss rfl ?_
                  | with_reducible refine r_skip ?_
                  | with_reducible refine r_exit ?_
                  | with_reducible refine r_ret ?_
                  | with_reducible refine r_rq_exit ?_
                  | with_reducible refine r_rq_ret ?_
                  | ((with_reducible apply r_regA); (focus (simp only [List.append_eq, List.cons_append, List.nil_append] <;> rfl)); (focus (first | exact Nat.le_of_ble_eq_true rfl | (simp only [List.length_cons, List.length_nil]; omega))))
                  | ((with_reducible refine r_reg (List.toList_toArray) ?_ ?_); focus (first | exact Nat.le_of_ble_eq_true rfl | (simp only [List.length_cons, List.length_nil]; omega)))
                  | ((with_reducible apply r_drawL); (focus kernel_rfl); (focus kernel_rfl); (focus (first | exact Nat.le_of_ble_eq_true rfl | (simp only [List.length_cons, List.length_nil]; omega))))
                  | ((with_reducible apply r_end); focus (simp only [Nat.add_assoc, Nat.reduceAdd, Nat.zero_add] <;> rfl))
                  | ((with_reducible (first | apply r_move | apply r_assign)); (focus (simp only [Tget_set, Nat.reduceEqDiff, ↓reduceIte, v1, v10] <;> rfl)); (focus (exact Nat.le_of_ble_eq_true rfl)))
                  | ((with_reducible apply r_condT); (focus (simp only [Tget_set, ↓reduceIte] <;> rfl)))
                  | ((with_reducible (first | apply r_any | apply r_cond)); focus (simp only [↓reduceIte, wantedA_eq, gBool_t, Bool.not_true, clsOf, clsCall, Fr.ev, ofV, ofA, ofS, put_mk, pureOp, readOp, pFA, pFA1, pFA2, rLd, oneCell_one, pBin, binA, intOp_eql, intOp_lss, intOp_geq, pPick, List.getElem?_cons_zero, List.getElem?_cons_succ, Nat.zero_add, Nat.add_zero, Nat.reduceLT, Nat.reduceEqDiff, Nat.add_eq, loadA_w, loadW_s, pUn_not, binA, stepOp, stV_mk, sz2, ag2, sz4, ag4, Tryz.underlying83, stepAny, wantedA_none, rCall, rLen, Tget_set, v0, v1, v7, v8, v9, v10, LN, lt_t hil, pIA_s Tryz.underlying37 sz83 hil, r1, r2, ge_t hx, ls_t hx2, hyt, hrow, pIA_s Tryz.underlying81 sz4 hxN, rdx, intOp_add (inR_succ hil (show L.length ≤ maxLen by omega))] <;> rfl))
                  | (with_reducible rw [ifQ_t])
                  | (with_reducible rw [ifQ_f])
                  | (with_reducible refine ifQ_intro ?_ ?_ <;> intro hb))
                  exact r_rq_n (k := L.length - (i + 1)) (by omega) ⟨_, _, i + 1, true, rfl, rfl, by omega, rfl, by omega, by omega, (by first | (simp only [Tget_set, Nat.reduceEqDiff, ↓reduceIte, v0] <;> rfl) | rfl), (by first | (simp only [Tget_set, Nat.reduceEqDiff, ↓reduceIte, v1] <;> rfl) | rfl), (by first | (simp only [Tget_set, Nat.reduceEqDiff, ↓reduceIte, v6] <;> rfl) | rfl), (by first | (simp only [Tget_set, Nat.reduceEqDiff, ↓reduceIte, v7] <;> rfl) | rfl), (by first | (simp only [Tget_set, Nat.reduceEqDiff, ↓reduceIte, v8] <;> rfl) | rfl), (by first | (simp only [Tget_set, Nat.reduceEqDiff, ↓reduceIte, v9] <;> rfl) | rfl), (by first | (simp only [Tget_set, ↓reduceIte] <;> rfl) | rfl), hFI.skip hxy hsk⟩
                | false =>
                  repeat' (first
                  | with_reducible refine r_seq ?_
                  | with_reducible refine r_next ?_
                  | with_reducible refine r_block ?_
                  | with_reducible refine r_seq_exit ?_
                  | with_reducible refine r_seq_ret ?_
                  | with_reducible refine r_blk_n ?_
                  | with_reducible refine r_blk_ret ?_
                  | with_reducible refine r_blk_hit ?_
                  | with_reducible refine r_blk_miss rfl ?_
                  | with_reducible refine r_skip ?_
                  | with_reducible refine r_exit ?_
                  | with_reducible refine r_ret ?_
                  | with_reducible refine r_rq_exit ?_
                  | with_reducible refine r_rq_ret ?_
                  | ((with_reducible apply r_regA); (focus (simp only [List.append_eq, List.cons_append, List.nil_append] <;> rfl)); (focus (first | exact Nat.le_of_ble_eq_true rfl | (simp only [List.length_cons, List.length_nil]; omega))))
                  | ((with_reducible refine r_reg (List.toList_toArray) ?_ ?_); focus (first | exact Nat.le_of_ble_eq_true rfl | (simp only [List.length_cons, List.length_nil]; omega)))
                  | ((with_reducible apply r_drawL); (focus kernel_rfl); (focus kernel_rfl); (focus (first | exact Nat.le_of_ble_eq_true rfl | (simp only [List.length_cons, List.length_nil]; omega))))
                  | ((with_reducible apply r_end); focus (simp only [Nat.add_assoc, Nat.reduceAdd, Nat.zero_add] <;> rfl))
                  | ((with_reducible (first | apply r_move | apply r_assign)); (focus (simp only [Tget_set, Nat.reduceEqDiff, ↓reduceIte, v1, v10] <;> rfl)); (focus (exact Nat.le_of_ble_eq_true rfl)))
                  | ((with_reducible apply r_condT); (focus (simp only [Tget_set, ↓reduceIte] <;> rfl)))
                  | ((with_reducible (first | apply r_any | apply r_cond)); focus (simp only [↓reduceIte, wantedA_eq, gBool_t, Bool.not_false, clsOf, clsCall, Fr.ev, ofV, ofA, ofS, put_mk, pureOp, readOp, pFA, pFA1, pFA2, rLd, oneCell_one, pBin, binA, intOp_eql, intOp_lss, intOp_geq, pPick, List.getElem?_cons_zero, List.getElem?_cons_succ, Nat.zero_add, Nat.add_zero, Nat.reduceLT, Nat.reduceEqDiff, Nat.add_eq, loadA_w, loadW_s, pUn_not, binA, stepOp, stV_mk, sz2, ag2, sz4, ag4, Tryz.underlying83, stepAny, wantedA_none, rCall, rLen, Tget_set, v0, v1, v7, v8, v9, v10, LN, lt_t hil, pIA_s Tryz.underlying37 sz83 hil, r1, r2, ge_t hx, ls_t hx2, hyt, hrow, pIA_s Tryz.underlying81 sz4 hxN, rdx, intOp_add (inR_succ hil (show L.length ≤ maxLen by omega))] <;> rfl))
                  | (with_reducible rw [ifQ_t])
                  | (with_reducible rw [ifQ_f])
                  | (with_reducible refine ifQ_intro ?_ ?_ <;> intro hb))
                  exact r_rq_n (k := L.length - (i + 1)) (by omega) ⟨_, _, i + 1, false, rfl, rfl, by omega, rfl, by omega, by omega, (by first | (simp only [Tget_set, Nat.reduceEqDiff, ↓reduceIte, v0] <;> rfl) | rfl), (by first | (simp only [Tget_set, Nat.reduceEqDiff, ↓reduceIte, v1] <;> rfl) | rfl), (by first | (simp only [Tget_set, Nat.reduceEqDiff, ↓reduceIte, v6] <;> rfl) | rfl), (by first | (simp only [Tget_set, Nat.reduceEqDiff, ↓reduceIte, v7] <;> rfl) | rfl), (by first | (simp only [Tget_set, Nat.reduceEqDiff, ↓reduceIte, v8] <;> rfl) | rfl), (by first | (simp only [Tget_set, Nat.reduceEqDiff, ↓reduceIte] <;> rfl) | rfl), (by first | (simp only [Tget_set, ↓reduceIte] <;> rfl) | rfl), hFI.stop hxy hx hx2 hy hvl (by simpa using hbx)⟩
              · have hyf : (y == ((v : Nat) : Int)) = false := beq_eq_false_iff_ne.2 hy
                have hsk : 0 ≤ x ∧ x < (N : Int) ∧ y = (v : Int) → D[x.toNat]? = some true := fun q => absurd q.2.2 hy
                repeat' (first
                | with_reducible refine r_seq ?_
                | with_reducible refine r_next ?_
                | with_reducible refine r_block ?_
                | with_reducible refine r_seq_exit ?_
                | with_reducible refine r_seq_ret ?_
                | with_reducible refine r_blk_n ?_
                | with_reducible refine r_blk_ret ?_
                | with_reducible refine r_blk_hit ?_
                | with_reducible refine r_blk_miss rfl ?_
                | with_reducible refine r_skip ?_
                | with_reducible refine r_exit ?_
                | with_reducible refine r_ret ?_
                | with_reducible refine r_rq_exit ?_
                | with_reducible refine r_rq_ret ?_
                | ((with_reducible apply r_regA); (focus (simp only [List.append_eq, List.cons_append, List.nil_append] <;> rfl)); (focus (first | exact Nat.le_of_ble_eq_true rfl | (simp only [List.length_cons, List.length_nil]; omega))))
                | ((with_reducible refine r_reg (List.toList_toArray) ?_ ?_); focus (first | exact Nat.le_of_ble_eq_true rfl | (simp only [List.length_cons, List.length_nil]; omega)))
                | ((with_reducible apply r_drawL); (focus kernel_rfl); (focus kernel_rfl); (focus (first | exact Nat.le_of_ble_eq_true rfl | (simp only [List.length_cons, List.length_nil]; omega))))
                | ((with_reducible apply r_end); focus (simp only [Nat.add_assoc, Nat.reduceAdd, Nat.zero_add] <;> rfl))
                | ((with_reducible (first | apply r_move | apply r_assign)); (focus (simp only [Tget_set, Nat.reduceEqDiff, ↓reduceIte, v1, v10] <;> rfl)); (focus (exact Nat.le_of_ble_eq_true rfl)))
                | ((with_reducible apply r_condT); (focus (simp only [Tget_set, ↓reduceIte] <;> rfl)))
                | ((with_reducible (first | apply r_any | apply r_cond)); focus (simp only [↓reduceIte, wantedA_eq, gBool_t, clsOf, clsCall, Fr.ev, ofV, ofA, ofS, put_mk, pureOp, readOp, pFA, pFA1, pFA2, rLd, oneCell_one, pBin, binA, intOp_eql, intOp_lss, intOp_geq, pPick, List.getElem?_cons_zero, List.getElem?_cons_succ, Nat.add_zero, Nat.reduceLT, Nat.reduceEqDiff, Nat.add_eq, loadA_w, loadW_s, binA, stepOp, stV_mk, sz2, ag2, Tryz.underlying83, stepAny, wantedA_none, rCall, rLen, Tget_set, v0, v1, v8, v9, v10, LN, lt_t hil, pIA_s Tryz.underlying37 sz83 hil, r1, r2, ge_t hx, ls_t hx2, hyf, intOp_add (inR_succ hil (show L.length ≤ maxLen by omega))] <;> rfl))
                | (with_reducible rw [ifQ_t])
                | (with_reducible rw [ifQ_f])
                | (with_reducible refine ifQ_intro ?_ ?_ <;> intro hb))
                exact r_rq_n (k := L.length - (i + 1)) (by omega) ⟨_, _, i + 1, true, rfl, rfl, by omega, rfl, by omega, by omega, (by first | (simp only [Tget_set, Nat.reduceEqDiff, ↓reduceIte, v0] <;> rfl) | rfl), (by first | (simp only [Tget_set, Nat.reduceEqDiff, ↓reduceIte, v1] <;> rfl) | rfl), (by first | (simp only [Tget_set, Nat.reduceEqDiff, ↓reduceIte, v6] <;> rfl) | rfl), (by first | (simp only [Tget_set, Nat.reduceEqDiff, ↓reduceIte, v7] <;> rfl) | rfl), (by first | (simp only [Tget_set, Nat.reduceEqDiff, ↓reduceIte, v8] <;> rfl) | rfl), (by first | (simp only [Tget_set, Nat.reduceEqDiff, ↓reduceIte, v9] <;> rfl) | rfl), (by first | (simp only [Tget_set, ↓reduceIte] <;> rfl) | rfl), hFI.skip hxy hsk⟩
            · have hsk : 0 ≤ x ∧ x < (N : Int) ∧ y = (v : Int) → D[x.toNat]? = some true := fun q => absurd q.2.1 hx2
              repeat' (first
              | with_reducible refine r_seq ?_
              | with_reducible refine r_next ?_
              | with_reducible refine r_block ?_
              | with_reducible refine r_seq_exit ?_
              | with_reducible refine r_seq_ret ?_
              | with_reducible refine r_blk_n ?_
              | with_reducible refine r_blk_ret ?_
              | with_reducible refine r_blk_hit ?_
              | with_reducible refine r_blk_miss rfl ?_
              | with_reducible refine r_skip ?_
              | with_reducible refine r_exit ?_
              | with_reducible refine r_ret ?_
              | with_reducible refine r_rq_exit ?_
              | with_reducible refine r_rq_ret ?_
              | ((with_reducible apply r_regA); (focus (simp only [List.append_eq, List.cons_append, List.nil_append] <;> rfl)); (focus (first | exact Nat.le_of_ble_eq_true rfl | (simp only [List.length_cons, List.length_nil]; omega))))
              | ((with_reducible refine r_reg (List.toList_toArray) ?_ ?_); focus (first | exact Nat.le_of_ble_eq_true rfl | (simp only [List.length_cons, List.length_nil]; omega)))
              | ((with_reducible apply r_drawL); (focus kernel_rfl); (focus kernel_rfl); (focus (first | exact Nat.le_of_ble_eq_true rfl | (simp only [List.length_cons, List.length_nil]; omega))))
              | ((with_reducible apply r_end); focus (simp only [Nat.add_assoc, Nat.reduceAdd, Nat.zero_add] <;> rfl))
              | ((with_reducible (first | apply r_move | apply r_assign)); (focus (simp only [Tget_set, Nat.reduceEqDiff, ↓reduceIte, v1, v10] <;> rfl)); (focus (exact Nat.le_of_ble_eq_true rfl)))
              | ((with_reducible apply r_condT); (focus (simp only [Tget_set, ↓reduceIte] <;> rfl)))
              | ((with_reducible (first | apply r_any | apply r_cond)); focus (simp only [↓reduceIte, wantedA_eq, gBool_t, clsOf, clsCall, Fr.ev, ofV, ofA, ofS, put_mk, pureOp, readOp, pFA, pFA1, pFA2, rLd, oneCell_one, pBin, binA, intOp_lss, intOp_geq, pPick, List.getElem?_cons_zero, List.getElem?_cons_succ, Nat.add_zero, Nat.reduceLT, Nat.reduceEqDiff, Nat.add_eq, loadA_w, loadW_s, binA, stepOp, stV_mk, sz2, ag2, Tryz.underlying83, stepAny, wantedA_none, rCall, rLen, Tget_set, v0, v9, LN, lt_t hil, pIA_s Tryz.underlying37 sz83 hil, r1, ge_t hx, ls_f hx2, intOp_add (inR_succ hil (show L.length ≤ maxLen by omega))] <;> rfl))
              | (with_reducible rw [ifQ_t])
              | (with_reducible rw [ifQ_f])
              | (with_reducible refine ifQ_intro ?_ ?_ <;> intro hb))
              exact r_rq_n (k := L.length - (i + 1)) (by omega) ⟨_, _, i + 1, true, rfl, rfl, by omega, rfl, by omega, by omega, (by first | (simp only [Tget_set, Nat.reduceEqDiff, ↓reduceIte, v0] <;> rfl) | rfl), (by first | (simp only [Tget_set, Nat.reduceEqDiff, ↓reduceIte, v1] <;> rfl) | rfl), (by first | (simp only [Tget_set, Nat.reduceEqDiff, ↓reduceIte, v6] <;> rfl) | rfl), (by first | (simp only [Tget_set, Nat.reduceEqDiff, ↓reduceIte, v7] <;> rfl) | rfl), (by first | (simp only [Tget_set, Nat.reduceEqDiff, ↓reduceIte, v8] <;> rfl) | rfl), (by first | (simp only [Tget_set, Nat.reduceEqDiff, ↓reduceIte, v9] <;> rfl) | rfl), (by first | (simp only [Tget_set, ↓reduceIte] <;> rfl) | rfl), hFI.skip hxy hsk⟩
          · have hsk : 0 ≤ x ∧ x < (N : Int) ∧ y = (v : Int) → D[x.toNat]? = some true := fun q => absurd q.1 hx
            repeat' (first
            | with_reducible refine r_seq ?_
            | with_reducible refine r_next ?_
            | with_reducible refine r_block ?_
            | with_reducible refine r_seq_exit ?_
            | with_reducible refine r_seq_ret ?_
            | with_reducible refine r_blk_n ?_
            | with_reducible refine r_blk_ret ?_
            | with_reducible refine r_blk_hit ?_
            | with_reducible refine r_blk_miss rfl ?_
            | with_reducible refine r_skip ?_
            | with_reducible refine r_exit ?_
            | with_reducible refine r_ret ?_
            | with_reducible refine r_rq_exit ?_
            | with_reducible refine r_rq_ret ?_
            | ((with_reducible apply r_regA); (focus (simp only [List.append_eq, List.cons_append, List.nil_append] <;> rfl)); (focus (first | exact Nat.le_of_ble_eq_true rfl | (simp only [List.length_cons, List.length_nil]; omega))))
            | ((with_reducible refine r_reg (List.toList_toArray) ?_ ?_); focus (first | exact Nat.le_of_ble_eq_true rfl | (simp only [List.length_cons, List.length_nil]; omega)))
            | ((with_reducible apply r_drawL); (focus kernel_rfl); (focus kernel_rfl); (focus (first | exact Nat.le_of_ble_eq_true rfl | (simp only [List.length_cons, List.length_nil]; omega))))
            | ((with_reducible apply r_end); focus (simp only [Nat.add_assoc, Nat.reduceAdd, Nat.zero_add] <;> rfl))
            | ((with_reducible (first | apply r_move | apply r_assign)); (focus (simp only [Tget_set, Nat.reduceEqDiff, ↓reduceIte, v1, v10] <;> rfl)); (focus (exact Nat.le_of_ble_eq_true rfl)))
            | ((with_reducible apply r_condT); (focus (simp only [Tget_set, ↓reduceIte] <;> rfl)))
            | ((with_reducible (first | apply r_any | apply r_cond)); focus (simp only [↓reduceIte, wantedA_eq, gBool_t, clsOf, clsCall, Fr.ev, ofV, ofA, ofS, put_mk, pureOp, readOp, pFA, pFA1, pFA2, rLd, oneCell_one, pBin, binA, intOp_lss, intOp_geq, pPick, List.getElem?_cons_zero, List.getElem?_cons_succ, Nat.add_zero, Nat.reduceLT, Nat.reduceEqDiff, Nat.add_eq, loadA_w, loadW_s, binA, stepOp, stV_mk, sz2, ag2, Tryz.underlying83, stepAny, wantedA_none, rCall, rLen, Tget_set, v9, LN, lt_t hil, pIA_s Tryz.underlying37 sz83 hil, r1, ge_f hx, intOp_add (inR_succ hil (show L.length ≤ maxLen by omega))] <;> rfl))
            | (with_reducible rw [ifQ_t])
            | (with_reducible rw [ifQ_f])
            | (with_reducible refine ifQ_intro ?_ ?_ <;> intro hb))
            exact r_rq_n (k := L.length - (i + 1)) (by omega) ⟨_, _, i + 1, true, rfl, rfl, by omega, rfl, by omega, by omega, (by first | (simp only [Tget_set, Nat.reduceEqDiff, ↓reduceIte, v0] <;> rfl) | rfl), (by first | (simp only [Tget_set, Nat.reduceEqDiff, ↓reduceIte, v1] <;> rfl) | rfl), (by first | (simp only [Tget_set, Nat.reduceEqDiff, ↓reduceIte, v6] <;> rfl) | rfl), (by first | (simp only [Tget_set, Nat.reduceEqDiff, ↓reduceIte, v7] <;> rfl) | rfl), (by first | (simp only [Tget_set, Nat.reduceEqDiff, ↓reduceIte, v8] <;> rfl) | rfl), (by first | (simp only [Tget_set, Nat.reduceEqDiff, ↓reduceIte, v9] <;> rfl) | rfl), (by first | (simp only [Tget_set, ↓reduceIte] <;> rfl) | rfl), hFI.skip hxy hsk⟩
      · cases fl with
        | false =>
          have hnf : ¬ free N E D v := hFI.no rfl
          repeat' (first
          | with_reducible refine r_seq ?_
          | with_reducible refine r_next ?_
          | with_reducible refine r_block ?_
          | with_reducible refine r_seq_exit ?_
          | with_reducible refine r_seq_ret ?_
          | with_reducible refine r_blk_n ?_
          | with_reducible refine r_blk_ret ?_
          | with_reducible refine r_blk_hit ?_
          | with_reducible refine r_blk_miss rfl ?_
          | with_reducible refine r_skip ?_
          | with_reducible refine r_exit ?_
          | with_reducible refine r_ret ?_
          | with_reducible refine r_rq_exit ?_
          | with_reducible refine r_rq_ret ?_
          | ((with_reducible apply r_regA); (focus (simp only [List.append_eq, List.cons_append, List.nil_append] <;> rfl)); (focus (first | exact Nat.le_of_ble_eq_true rfl | (simp only [List.length_cons, List.length_nil]; omega))))
          | ((with_reducible refine r_reg (List.toList_toArray) ?_ ?_); focus (first | exact Nat.le_of_ble_eq_true rfl | (simp only [List.length_cons, List.length_nil]; omega)))
          | ((with_reducible apply r_drawL); (focus kernel_rfl); (focus kernel_rfl); (focus (first | exact Nat.le_of_ble_eq_true rfl | (simp only [List.length_cons, List.length_nil]; omega))))
          | ((with_reducible apply r_end); focus (simp only [Nat.add_assoc, Nat.reduceAdd, Nat.zero_add] <;> rfl))
          | ((with_reducible (first | apply r_move | apply r_assign)); (focus (simp only [Tget_set, Nat.reduceEqDiff, ↓reduceIte, v1, v8, v9, v10] <;> rfl)); (focus (exact Nat.le_of_ble_eq_true rfl)))
          | ((with_reducible apply r_condT); (focus (simp only [Tget_set, ↓reduceIte] <;> rfl)))
          | ((with_reducible (first | apply r_any | apply r_cond)); focus (simp only [↓reduceIte, wantedA_eq, gBool_t, clsOf, clsCall, Fr.ev, ofV, ofA, ofS, put_mk, pureOp, readOp, pBin, binA, intOp_lss, pPick, List.getElem?_cons_zero, List.getElem?_cons_succ, Nat.reduceLT, Nat.reduceEqDiff, binA, stepOp, stV_mk, stepAny, wantedA_none, rCall, rLen, Tget_set, LN, lt_f hil, intOp_add (inR_succ hvl (show N ≤ maxLen by omega))] <;> rfl))
          | (with_reducible rw [ifQ_t])
          | (with_reducible rw [ifQ_f])
          | (with_reducible refine ifQ_intro ?_ ?_ <;> intro hb))
          exact r_rq_n (k := N - (v + 1)) (by omega) ⟨_, _, v + 1, rfl, rfl, by omega, rfl, by omega, by omega, (by first | (simp only [Tget_set, Nat.reduceEqDiff, ↓reduceIte, v0] <;> rfl) | rfl), (by first | (simp only [Tget_set, Nat.reduceEqDiff, ↓reduceIte, v1] <;> rfl) | rfl), (by first | (simp only [Tget_set, Nat.reduceEqDiff, ↓reduceIte, v6] <;> rfl) | rfl), (by first | (simp only [Tget_set, Nat.reduceEqDiff, ↓reduceIte, v7] <;> rfl) | rfl), (by first | (simp only [Tget_set, ↓reduceIte] <;> rfl) | rfl), fun w hw => by
            rcases Nat.lt_or_ge w v with q | q
            · exact hno w q
            · rw [show w = v by omega]; exact hnf⟩
        | true =>
          have hfr := hFI.fin rfl (by omega) hvl
          have hnx := nextF_is hvl hfr hno
          have hD2 : ordN N E (k + 1) = some (D.set v true, o ++ [(v : Int)]) := by simp only [ordN, hD, hnx]
          have hvb : v < D.length := by omega
          have hIs := (il_setb (b' := bRow (D.set v true)) hI hrow).up (show lc ≤ lc4 by omega)
          have ap := fun (key : Nat) => app_ints2 (P := Tryz.prog) (key := key) (f := F + 1 + 1) (a := 12) (b := 2) (x := (v : Int)) (cap := some 1) Tryz.underlying38 sz2 by2 zo2 (by omega) hIs (show o.length ≤ 1000 by omega)
          have hkg := fun (h' : Heap) => kill_get (h' := h') hI hrow
          repeat' (first
          | with_reducible refine r_seq ?_
          | with_reducible refine r_next ?_
          | with_reducible refine r_block ?_
          | with_reducible refine r_seq_exit ?_
          | with_reducible refine r_seq_ret ?_
          | with_reducible refine r_blk_n ?_
          | with_reducible refine r_blk_ret ?_
          | with_reducible refine r_blk_hit ?_
          | with_reducible refine r_blk_miss rfl ?_
          | with_reducible refine r_skip ?_
          | with_reducible refine r_exit ?_
          | with_reducible refine r_ret ?_
          | with_reducible refine r_rq_exit ?_
          | with_reducible refine r_rq_ret ?_
          | ((with_reducible apply r_regA); (focus (simp only [List.append_eq, List.cons_append, List.nil_append] <;> rfl)); (focus (first | exact Nat.le_of_ble_eq_true rfl | (simp only [List.length_cons, List.length_nil]; omega))))
          | ((with_reducible refine r_reg (List.toList_toArray) ?_ ?_); focus (first | exact Nat.le_of_ble_eq_true rfl | (simp only [List.length_cons, List.length_nil]; omega)))
          | ((with_reducible apply r_drawL); (focus kernel_rfl); (focus kernel_rfl); (focus (first | exact Nat.le_of_ble_eq_true rfl | (simp only [List.length_cons, List.length_nil]; omega))))
          | ((with_reducible apply r_end); focus (simp only [Nat.add_assoc, Nat.reduceAdd, Nat.zero_add] <;> rfl))
          | ((with_reducible (first | apply r_move | apply r_assign)); (focus (simp only [Tget_set, Nat.reduceEqDiff, ↓reduceIte, v1, v6, v7, v8, v9, v10] <;> rfl)); (focus (exact Nat.le_of_ble_eq_true rfl)))
          | ((with_reducible apply r_condT); (focus (simp only [Tget_set, ↓reduceIte] <;> rfl)))
          | ((with_reducible (first | apply r_any | apply r_cond)); focus (simp only [↓reduceIte, wantedA_eq, gBool_t, clsOf, clsCall, newBlk, allocOp, Fr.ev, evParts, ofV, ofA, ofS, AV.cells, put_mk, put_none, upd_mk, keyOf_mk, pureOp, readOp, pBin, binA, intOp_lss, pPick, List.length_cons, List.length_nil, List.getElem?_cons_zero, List.getElem?_cons_succ, Nat.zero_add, Nat.reduceAdd, Nat.reduceLT, Nat.reduceEqDiff, aSt_w, stOut_s, heavyCall, actOp, binA, stepOp, stHeavy, stV_mk, stB_mk, stO_mk, sz4, Tryz.underlying38, stepAny, wantedA_none, rCall, rLen, Tget_set, LN, lt_f hil, hrow, pIA_s Tryz.underlying81 sz4 hvl, wr_b hvb, nBS_int sz2 zr2, aBuiltin, aApp, aApp2, ap, outOf] <;> rfl))
          | (with_reducible rw [ifQ_t])
          | (with_reducible rw [ifQ_f])
          | (with_reducible refine ifQ_intro ?_ ?_ <;> intro hb))
          refine r_rq_n (k := N - (k + 1)) (by omega) ⟨_, _, _, k + 1, D.set v true, o ++ [(v : Int)], _, rfl, rfl, by omega, rfl, by omega, by omega, (by first | (simp only [Tget_set, Nat.reduceEqDiff, ↓reduceIte, v0] <;> rfl) | rfl), (by first | (simp only [Tget_set, Nat.reduceEqDiff, ↓reduceIte, v1] <;> rfl) | rfl), (by first | (simp only [Tget_set, ↓reduceIte] <;> rfl) | rfl), (by first | (simp only [Tget_set, Nat.reduceEqDiff, ↓reduceIte, v7] <;> rfl) | rfl), ?_, ?_, hD2, ?_⟩
          · exact (((hlow.set (Nat.le_refl F)).set (Nat.le_refl F)).kill hI).set (Nat.le_refl F)
          · rw [hget_hset, if_neg (by rw [ky_inj]; omega), hkg, hget_hset, if_neg (by rw [ky_inj]; omega), hget_hset, if_pos rfl]
          · exact IL.new' (by omega) rfl
    · exact absurd g2 (hno _ (by omega))
  · obtain rfl : k = N := by omega
    repeat' (first
    | with_reducible refine r_seq ?_
    | with_reducible refine r_next ?_
    | with_reducible refine r_block ?_
    | with_reducible refine r_seq_exit ?_
    | with_reducible refine r_seq_ret ?_
    | with_reducible refine r_blk_n ?_
    | with_reducible refine r_blk_ret ?_
    | with_reducible refine r_blk_hit ?_
    | with_reducible refine r_blk_miss rfl ?_
    | with_reducible refine r_skip ?_
    | with_reducible refine r_exit ?_
    | with_reducible refine r_ret ?_
    | with_reducible refine r_rq_exit ?_
    | with_reducible refine r_rq_ret ?_
    | ((with_reducible apply r_regA); (focus (simp only [List.append_eq, List.cons_append, List.nil_append] <;> rfl)); (focus (first | exact Nat.le_of_ble_eq_true rfl | (simp only [List.length_cons, List.length_nil]; omega))))
    | ((with_reducible refine r_reg (List.toList_toArray) ?_ ?_); focus (first | exact Nat.le_of_ble_eq_true rfl | (simp only [List.length_cons, List.length_nil]; omega)))
    | ((with_reducible apply r_drawL); (focus kernel_rfl); (focus kernel_rfl); (focus (first | exact Nat.le_of_ble_eq_true rfl | (simp only [List.length_cons, List.length_nil]; omega))))
    | ((with_reducible apply r_end); focus (simp only [Nat.add_assoc, Nat.reduceAdd, Nat.zero_add] <;> rfl))
    | ((with_reducible (first | apply r_move | apply r_assign)); (focus (simp only [Tget_set, Nat.reduceEqDiff, ↓reduceIte, u0, u6] <;> rfl)); (focus (exact Nat.le_of_ble_eq_true rfl)))
    | ((with_reducible apply r_condT); (focus (simp only [Tget_set, ↓reduceIte] <;> rfl)))
    | ((with_reducible (first | apply r_any | apply r_cond)); focus (simp only [↓reduceIte, clsOf, clsCall, Fr.ev, ofV, ofA, ofS, put_mk, pureOp, readOp, pBin, binA, intOp_lss, List.getElem?_cons_zero, Nat.reduceLT, Nat.reduceEqDiff, binA, stepOp, stV_mk, stepAny, wantedA_none, rCall, rLen, Tget_set, hlen, lt_f hkN] <;> rfl))
    | (with_reducible rw [ifQ_t])
    | (with_reducible rw [ifQ_f])
    | (with_reducible refine ifQ_intro ?_ ?_ <;> intro hb))
    subst hQ
    refine ret_back (by simp only [Tryz.results12, resultOf, resultsA, resultA, List.toList_toArray, Fr.ev, Tget_set, Nat.reduceEqDiff, ↓reduceIte] <;> rfl) ?_
    have hyes := ord_yes hD
    rw [hN, hE, hyes.1, hyes.2]
    refine ⟨_, _, rfl, hlow, hlow.same hw, il_lstI hI (fun z hz => ?_) (by omega) (by omega)⟩
    have := hOI.low z hz; omega

end Go.Proofs.YtpgkhpfogjclhaaGreatDoor
