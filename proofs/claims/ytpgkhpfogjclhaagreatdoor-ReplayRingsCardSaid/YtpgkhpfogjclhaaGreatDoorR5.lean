/- A part of the proof of the law ReplayRings. CONDITIONS: those that each theorem names. -/
import Derived.Test.YtpgkhpfogjclhaaGreatDoorR4
namespace Go.Proofs.YtpgkhpfogjclhaaGreatDoor
open Go Go.Ai
set_option maxRecDepth 100000

def msr (m : Bool) (b : List Bool) : Nat := match m with
  | true => falses b + 1
  | false => 0
structure PI (n : Nat) (E : List (Int × Int)) (s : Nat) (b : List Bool) (i : Nat) (b3 : List Bool) (m3 : Bool) : Prop where
  no : m3 = false → b3 = b ∧ ∀ e ∈ E.take i, shut n s b3 e
  yes : m3 = true → falses b3 < falses b
theorem PI.init (n : Nat) (E : List (Int × Int)) (s : Nat) (b : List Bool) : PI n E s b 0 b false := ⟨fun _ => ⟨rfl, by simp⟩, fun h => by cases h⟩
theorem PI.skip {n : Nat} {E : List (Int × Int)} {s i : Nat} {b b3 : List Bool} {m3 : Bool} {e : Int × Int} (p : PI n E s b i b3 m3) (he : E[i]? = some e) (hs : shut n s b3 e) : PI n E s b (i + 1) b3 m3 := by
  refine ⟨fun h => ⟨(p.no h).1, fun x hx => ?_⟩, p.yes⟩
  rw [List.take_add_one, he] at hx
  rcases List.mem_append.1 hx with hx | hx
  · exact (p.no h).2 x hx
  · simp only [Option.toList_some, List.mem_singleton] at hx; subst hx; exact hs
theorem PI.mark {n : Nat} {E : List (Int × Int)} {s i k : Nat} {b b3 : List Bool} {m3 : Bool} (p : PI n E s b i b3 m3) (hk : b3[k]? = some false) : PI n E s b (i + 1) (b3.set k true) true := by
  refine ⟨fun h => (by cases h), fun _ => ?_⟩
  have := falses_set hk
  cases m3 with
  | true => have := p.yes rfl; omega
  | false => rw [(p.no rfl).1] at this; rw [(p.no rfl).1]; omega
theorem PI.meas {n : Nat} {E : List (Int × Int)} {s i : Nat} {b b3 : List Bool} {m3 : Bool} (p : PI n E s b i b3 m3) : msr m3 b3 < msr true b := by
  cases m3 with
  | true => have := p.yes rfl; simp only [msr]; omega
  | false => simp only [msr]; omega
set_option maxHeartbeats 8000000 in
theorem rings15 (h : Heap) (F : Nat) (n : Int) (a : AV) (L : List (List AV)) (hA : LstP h ksE a L) (hn : n ≤ 50) (hL : L.length ≤ 300) :
    SndQ Tryz.prog [] 15 [.int .i64 n, a] ⟨h, F⟩ (fun o => ∃ v h', o = .val v ⟨h', F + 1⟩ ∧ Low F h h' ∧ SameH h h' ∧ LstI F (F + 1) h' ksN v (iL (ringsL n.toNat (edgesL L)))) := by
  have mxl : maxLen = 9223372036854775807 := by decide
  refine sndQ_wf fun hw => ?_
  obtain ⟨N, hN⟩ : ∃ N, n.toNat = N := ⟨_, rfl⟩
  obtain ⟨E, hE⟩ : ∃ E, edgesL L = E := ⟨_, rfl⟩
  have hEl : E.length = L.length := by rw [← hE, edgesL_len]
  have hNl : N ≤ 50 := by omega
  have hA0 : LstI 0 F h ksE a L := hA.below hw (by decide)
  refine sndQ_body (K := K0) kok0 mixed noNum (m := 100001) Tryz.func15 ?_
  generalize hQ : retQ _ _ _ _ _ _ = Q0
  refine body_go (c := Tryz.f15.body.getD .skip) (n := 80) rfl rfl (by simp only [↓reduceIte, T.setList, T.set_e, T.set_n, Nat.reduceDiv, Nat.reduceMod, Nat.reduceEqDiff, Nat.zero_add] <;> rfl) ?_
  simp only [Tryz.f15, Option.getD_some]
  repeat' (first
  | with_reducible refine r_seq ?_
  | with_reducible refine r_next ?_
  | with_reducible refine r_block ?_
  | with_reducible refine r_seq_exit ?_
  | with_reducible refine r_seq_ret ?_
  | with_reducible refine r_blk_n ?_
  | with_reducible refine r_blk_ret ?_
  | with_reducible refine r_blk_hit ?_
  | with_reducible refine r_blk_miss rfl ?_
  | with_reducible refine r_skip ?_
  | with_reducible refine r_exit ?_
  | with_reducible refine r_ret ?_
  | with_reducible refine r_rq_exit ?_
  | with_reducible refine r_rq_ret ?_
  | ((with_reducible apply r_regA); (focus (simp only [List.append_eq, List.cons_append, List.nil_append] <;> rfl)); (focus (first | exact Nat.le_of_ble_eq_true rfl | (simp only [List.length_cons, List.length_nil]; omega))))
  | ((with_reducible refine r_reg (List.toList_toArray) ?_ ?_); focus (first | exact Nat.le_of_ble_eq_true rfl | (simp only [List.length_cons, List.length_nil]; omega)))
  | ((with_reducible apply r_drawL); (focus kernel_rfl); (focus kernel_rfl); (focus (first | exact Nat.le_of_ble_eq_true rfl | (simp only [List.length_cons, List.length_nil]; omega))))
  | ((with_reducible apply r_end); focus (simp only [Nat.reduceAdd, Nat.zero_add] <;> rfl))
  | ((with_reducible (first | apply r_move | apply r_assign)); (focus (simp only [Tget_set, T.get_n, T.get_e, Nat.reduceEqDiff, Nat.reduceDiv, Nat.reduceMod, Nat.reduceSub, ↓reduceIte, if_true, if_false] <;> rfl)); (focus (exact Nat.le_of_ble_eq_true rfl)))
  | ((with_reducible apply r_condT); (focus (simp only [Tget_set, T.get_n, T.get_e, Nat.reduceEqDiff, Nat.reduceDiv, Nat.reduceMod, Nat.reduceSub, ↓reduceIte, if_true, if_false] <;> rfl)))
  | ((with_reducible (first | apply r_any | apply r_cond)); focus (simp only [↓reduceIte, clsOf, Fr.ev, ofV, ofA, ofS, put_mk, pureOp, Nat.reduceLT, Nat.reduceEqDiff, Nat.reduceSub, stepOp, stV_mk, T.set_n, T.set_e, Nat.reduceDiv, Nat.reduceMod, stepAny, wantedA_none] <;> rfl))
  | (with_reducible rw [ifQ_t])
  | (with_reducible rw [ifQ_f])
  | (with_reducible refine ifQ_intro ?_ ?_ <;> intro hb))
  refine r_loop (I := fun nn fr s1 => ∃ lc tt h1 s lo, fr = ⟨F, lc, 80, tt, [], .no⟩ ∧ s1 = ⟨h1, F + 1⟩ ∧ s ≤ N ∧ nn = N - s ∧ 3 ≤ lc ∧ lc + nn * 1000000000 ≤ 100000000000000000000000000 ∧ tt.get 0 = some (.int .i64 n) ∧ tt.get 1 = some a ∧ tt.get 5 = some lo ∧ tt.get 6 = some (.int .i64 (s : Int)) ∧ Low F h h1 ∧ IL h1 F lc lo (ringsUp N E s)) (n := N) ?_ ?_ ?_
  · omega
  · exact ⟨_, _, _, 0, .nils, rfl, rfl, Nat.zero_le _, (Nat.sub_zero _).symm, by omega, by omega, (by first | (simp only [T.get_n, ↓reduceIte] <;> rfl) | rfl), (by first | (simp only [T.get_n, Nat.reduceEqDiff, Nat.reduceDiv, Nat.reduceMod, ↓reduceIte] <;> rfl) | rfl), (by first | (simp only [T.get_n, Nat.reduceEqDiff, Nat.reduceDiv, Nat.reduceMod, Nat.reduceSub, ↓reduceIte] <;> rfl) | rfl), (by first | (simp only [T.get_n, Nat.reduceEqDiff, Nat.reduceDiv, Nat.reduceMod, Nat.reduceSub, ↓reduceIte] <;> rfl) | rfl), Low.refl F h, by rw [ringsUp_zero]; exact IL.nil⟩
  rintro nn fr s1 ⟨lc, tt, h1, s, lo, rfl, rfl, hs0, rfl, hl0, hlc, u0, u1, u5, u6, hS, hI⟩
  by_cases hsl : s < N
  · obtain rfl : n = (N : Int) := by omega
    repeat' (first
    | with_reducible refine r_seq ?_
    | with_reducible refine r_next ?_
    | with_reducible refine r_block ?_
    | with_reducible refine r_seq_exit ?_
    | with_reducible refine r_seq_ret ?_
    | with_reducible refine r_blk_n ?_
    | with_reducible refine r_blk_ret ?_
    | with_reducible refine r_blk_hit ?_
    | with_reducible refine r_blk_miss rfl ?_
    | with_reducible refine r_skip ?_
    | with_reducible refine r_exit ?_
    | with_reducible refine r_ret ?_
    | with_reducible refine r_rq_exit ?_
    | with_reducible refine r_rq_ret ?_
    | ((with_reducible apply r_regA); (focus (simp only [List.append_eq, List.cons_append, List.nil_append] <;> rfl)); (focus (first | exact Nat.le_of_ble_eq_true rfl | (simp only [List.length_cons, List.length_nil]; omega))))
    | ((with_reducible refine r_reg (List.toList_toArray) ?_ ?_); focus (first | exact Nat.le_of_ble_eq_true rfl | (simp only [List.length_cons, List.length_nil]; omega)))
    | ((with_reducible apply r_drawL); (focus kernel_rfl); (focus kernel_rfl); (focus (first | exact Nat.le_of_ble_eq_true rfl | (simp only [List.length_cons, List.length_nil]; omega))))
    | ((with_reducible apply r_end); focus (simp only [Nat.add_assoc, Nat.reduceAdd, Nat.zero_add] <;> rfl))
    | ((with_reducible (first | apply r_move | apply r_assign)); (focus (simp only [Tget_set, Nat.reduceEqDiff, ↓reduceIte, u0, u6] <;> rfl)); (focus (exact Nat.le_of_ble_eq_true rfl)))
    | ((with_reducible apply r_condT); (focus (simp only [Tget_set, ↓reduceIte] <;> rfl)))
    | ((with_reducible (first | apply r_any | apply r_cond)); focus (simp only [↓reduceIte, clsOf, newBlk, allocOp, Fr.ev, ofV, ofA, ofS, put_mk, upd_mk, keyOf_mk, pureOp, pBin, binA, intOp_lss, Nat.zero_add, Nat.reduceLT, Nat.reduceEqDiff, binA, stepOp, stV_mk, stB_mk, Tryz.underlying81, stepAny, wantedA_none, Tget_set, lt_t hsl, nMS_b sz4 by4 zr4 (show 1 * N ≤ 1073741824 by omega) (show N ≤ 1073741824 by omega)] <;> rfl))
    | (with_reducible rw [ifQ_t])
    | (with_reducible rw [ifQ_f])
    | (with_reducible refine ifQ_intro ?_ ?_ <;> intro hb))
    refine r_loop (I := fun nn fr s1 => ∃ lc2 tt2 h2 b m, fr = ⟨F, lc2, 80, tt2, [], .no⟩ ∧ s1 = ⟨h2, F + 1⟩ ∧ nn = msr m b ∧ lc + 4 < lc2 ∧ lc2 + nn * 1000000 ≤ lc + 900000000 ∧ tt2.get 0 = some (.int .i64 (N : Int)) ∧ tt2.get 1 = some a ∧ tt2.get 5 = some lo ∧ tt2.get 6 = some (.int .i64 (s : Int)) ∧ tt2.get 7 = some (.slice (ky F (lc + 3 + 1)) 0 0 N (some N)) ∧ tt2.get 8 = some (.bool m) ∧ Ev F lc 0 0 h1 h2 ∧ hget h2 (ky F (lc + 3 + 1)) = some (bRow b) ∧ RI N E s b ∧ (m = false → ∀ e ∈ E, shut N s b e)) (n := msr true (List.replicate N false)) ?_ ?_ ?_
    · have := falses_le (List.replicate N false); rw [List.length_replicate] at this; simp only [msr]; omega
    · have := falses_le (List.replicate N false)
      rw [List.length_replicate] at this
      exact ⟨_, _, _, List.replicate N false, true, rfl, rfl, rfl, by omega, by simp only [msr]; omega, (by first | (simp only [Tget_set, Nat.reduceEqDiff, ↓reduceIte, u0] <;> rfl) | rfl), (by first | (simp only [Tget_set, Nat.reduceEqDiff, ↓reduceIte, u1] <;> rfl) | rfl), (by first | (simp only [Tget_set, Nat.reduceEqDiff, ↓reduceIte, u5] <;> rfl) | rfl), (by first | (simp only [Tget_set, Nat.reduceEqDiff, ↓reduceIte, u6] <;> rfl) | rfl), (by first | (simp only [Tget_set, Nat.reduceEqDiff, ↓reduceIte] <;> rfl) | rfl), (by first | (simp only [Tget_set, ↓reduceIte] <;> rfl) | rfl), (Ev.refl F lc 0 0 h1).set (by omega) (by omega) (.inr (Nat.zero_le _)), by rw [hget_hset, if_pos rfl], RI.init N E s, fun h => by cases h⟩
    rintro nn fr s1 ⟨lc2, tt2, h2, b, m, rfl, rfl, rfl, hl2, hlc2, w0, w1, w5, w6, w7, w8, hev2, hrow2, hR2, hsh2⟩
    have hlow2 := hS.trans hev2.low
    cases m with
    | false =>
      have hdone := hR2.done (hsh2 rfl) s
      have hbl := hR2.len
      have hI2 : IL h2 F lc lo (ringsUp N E s) := hI.moveF fun c hc => hev2.own hc
      have hI2' := hI2.up (show lc ≤ lc2 by omega)
      have hul := ringsUp_len N E s
      have ap := fun (key : Nat) => app_ints2 (P := Tryz.prog) (key := key) (f := F + 1) (a := 5) (b := 2) (x := (s : Int)) (cap := some 1) Tryz.underlying38 sz2 by2 zo2 (by omega) hI2' (show (ringsUp N E s).length ≤ 1000 by omega)
      obtain ⟨v, hv⟩ : ∃ v, b[s]? = some v := ⟨b[s]'(by omega), by simp⟩
      have rdi := rd_b hv
      cases v with
      | true =>
        repeat' (first
        | with_reducible refine r_seq ?_
        | with_reducible refine r_next ?_
        | with_reducible refine r_block ?_
        | with_reducible refine r_seq_exit ?_
        | with_reducible refine r_seq_ret ?_
        | with_reducible refine r_blk_n ?_
        | with_reducible refine r_blk_ret ?_
        | with_reducible refine r_blk_hit ?_
        | with_reducible refine r_blk_miss rfl ?_
        | with_reducible refine r_skip ?_
        | with_reducible refine r_exit ?_
        | with_reducible refine r_ret ?_
        | with_reducible refine r_rq_exit ?_
        | with_reducible refine r_rq_ret ?_
        | ((with_reducible apply r_regA); (focus (simp only [List.append_eq, List.cons_append, List.nil_append] <;> rfl)); (focus (first | exact Nat.le_of_ble_eq_true rfl | (simp only [List.length_cons, List.length_nil]; omega))))
        | ((with_reducible refine r_reg (List.toList_toArray) ?_ ?_); focus (first | exact Nat.le_of_ble_eq_true rfl | (simp only [List.length_cons, List.length_nil]; omega)))
        | ((with_reducible apply r_drawL); (focus kernel_rfl); (focus kernel_rfl); (focus (first | exact Nat.le_of_ble_eq_true rfl | (simp only [List.length_cons, List.length_nil]; omega))))
        | ((with_reducible apply r_end); focus (simp only [Nat.add_assoc, Nat.reduceAdd, Nat.zero_add] <;> rfl))
        | ((with_reducible (first | apply r_move | apply r_assign)); (focus (simp only [Tget_set, Nat.reduceEqDiff, ↓reduceIte] <;> rfl)); (focus (exact Nat.le_of_ble_eq_true rfl)))
        | ((with_reducible apply r_condT); (focus (simp only [Tget_set, ↓reduceIte] <;> rfl)))
        | ((with_reducible (first | apply r_any | apply r_cond)); focus (simp only [↓reduceIte, clsOf, clsCall, newBlk, allocOp, Fr.ev, evParts, ofV, ofA, ofS, put_mk, upd_mk, keyOf_mk, pureOp, readOp, rLd, oneCell_one, pBin, binA, Nat.zero_add, Nat.reduceAdd, Nat.reduceLT, Nat.reduceEqDiff, loadA_w, loadW_s, heavyCall, binA, stepOp, stHeavy, stV_mk, stB_mk, stO_mk, sz4, ag4, Tryz.underlying38, stepAny, wantedA_none, Tget_set, w5, w6, w7, w8, hrow2, pIA_s Tryz.underlying81 sz4 hsl, rdi, nBS_int sz2 zr2, aBuiltin, aApp, aApp2, ap, outOf, intOp_add (inR_succ hsl (show N ≤ maxLen by omega))] <;> rfl))
        | (with_reducible rw [ifQ_t])
        | (with_reducible rw [ifQ_f])
        | (with_reducible refine ifQ_intro ?_ ?_ <;> intro hb))
        refine r_rq_n (k := N - (s + 1)) (by omega) ⟨_, _, _, s + 1, _, rfl, rfl, by omega, rfl, by omega, by omega, (by first | (simp only [Tget_set, Nat.reduceEqDiff, ↓reduceIte, w0] <;> rfl) | rfl), (by first | (simp only [Tget_set, Nat.reduceEqDiff, ↓reduceIte, w1] <;> rfl) | rfl), (by first | (simp only [Tget_set, Nat.reduceEqDiff, ↓reduceIte] <;> rfl) | rfl), (by first | (simp only [Tget_set, ↓reduceIte] <;> rfl) | rfl), ?_, ?_⟩
        · exact ((hlow2.set (Nat.le_refl F)).kill hI2').set (Nat.le_refl F)
        · exact IL.new' (by omega) (ringsUp_hit (hdone.1 hv))
      | false =>
        have hno : ¬ Pa (Ed N E) s s := fun hp => by have := hdone.2 hp; rw [hv] at this; cases this
        repeat' (first
        | with_reducible refine r_seq ?_
        | with_reducible refine r_next ?_
        | with_reducible refine r_block ?_
        | with_reducible refine r_seq_exit ?_
        | with_reducible refine r_seq_ret ?_
        | with_reducible refine r_blk_n ?_
        | with_reducible refine r_blk_ret ?_
        | with_reducible refine r_blk_hit ?_
        | with_reducible refine r_blk_miss rfl ?_
        | with_reducible refine r_skip ?_
        | with_reducible refine r_exit ?_
        | with_reducible refine r_ret ?_
        | with_reducible refine r_rq_exit ?_
        | with_reducible refine r_rq_ret ?_
        | ((with_reducible apply r_regA); (focus (simp only [List.append_eq, List.cons_append, List.nil_append] <;> rfl)); (focus (first | exact Nat.le_of_ble_eq_true rfl | (simp only [List.length_cons, List.length_nil]; omega))))
        | ((with_reducible refine r_reg (List.toList_toArray) ?_ ?_); focus (first | exact Nat.le_of_ble_eq_true rfl | (simp only [List.length_cons, List.length_nil]; omega)))
        | ((with_reducible apply r_drawL); (focus kernel_rfl); (focus kernel_rfl); (focus (first | exact Nat.le_of_ble_eq_true rfl | (simp only [List.length_cons, List.length_nil]; omega))))
        | ((with_reducible apply r_end); focus (simp only [Nat.add_assoc, Nat.reduceAdd, Nat.zero_add] <;> rfl))
        | ((with_reducible (first | apply r_move | apply r_assign)); (focus (simp only [Tget_set, Nat.reduceEqDiff, ↓reduceIte] <;> rfl)); (focus (exact Nat.le_of_ble_eq_true rfl)))
        | ((with_reducible apply r_condT); (focus (simp only [Tget_set, ↓reduceIte] <;> rfl)))
        | ((with_reducible (first | apply r_any | apply r_cond)); focus (simp only [↓reduceIte, clsOf, Fr.ev, ofV, ofA, ofS, put_mk, pureOp, readOp, rLd, oneCell_one, pBin, binA, Nat.zero_add, Nat.reduceLT, Nat.reduceEqDiff, loadA_w, loadW_s, binA, stepOp, stV_mk, sz4, ag4, stepAny, wantedA_none, Tget_set, w6, w7, w8, hrow2, pIA_s Tryz.underlying81 sz4 hsl, rdi, intOp_add (inR_succ hsl (show N ≤ maxLen by omega))] <;> rfl))
        | (with_reducible rw [ifQ_t])
        | (with_reducible rw [ifQ_f])
        | (with_reducible refine ifQ_intro ?_ ?_ <;> intro hb))
        exact r_rq_n (k := N - (s + 1)) (by omega) ⟨_, _, _, s + 1, _, rfl, rfl, by omega, rfl, by omega, by omega, (by first | (simp only [Tget_set, Nat.reduceEqDiff, ↓reduceIte, w0] <;> rfl) | rfl), (by first | (simp only [Tget_set, Nat.reduceEqDiff, ↓reduceIte, w1] <;> rfl) | rfl), (by first | (simp only [Tget_set, Nat.reduceEqDiff, ↓reduceIte, w5] <;> rfl) | rfl), (by first | (simp only [Tget_set, ↓reduceIte] <;> rfl) | rfl), hlow2, by rw [ringsUp_miss hno]; exact hI2.up (by omega)⟩
    | true =>
      repeat' (first
      | with_reducible refine r_seq ?_
      | with_reducible refine r_next ?_
      | with_reducible refine r_block ?_
      | with_reducible refine r_seq_exit ?_
      | with_reducible refine r_seq_ret ?_
      | with_reducible refine r_blk_n ?_
      | with_reducible refine r_blk_ret ?_
      | with_reducible refine r_blk_hit ?_
      | with_reducible refine r_blk_miss rfl ?_
      | with_reducible refine r_skip ?_
      | with_reducible refine r_exit ?_
      | with_reducible refine r_ret ?_
      | with_reducible refine r_rq_exit ?_
      | with_reducible refine r_rq_ret ?_
      | ((with_reducible apply r_regA); (focus (simp only [List.append_eq, List.cons_append, List.nil_append] <;> rfl)); (focus (first | exact Nat.le_of_ble_eq_true rfl | (simp only [List.length_cons, List.length_nil]; omega))))
      | ((with_reducible refine r_reg (List.toList_toArray) ?_ ?_); focus (first | exact Nat.le_of_ble_eq_true rfl | (simp only [List.length_cons, List.length_nil]; omega)))
      | ((with_reducible apply r_drawL); (focus kernel_rfl); (focus kernel_rfl); (focus (first | exact Nat.le_of_ble_eq_true rfl | (simp only [List.length_cons, List.length_nil]; omega))))
      | ((with_reducible apply r_end); focus (simp only [Nat.add_assoc, Nat.reduceAdd, Nat.zero_add] <;> rfl))
      | ((with_reducible (first | apply r_move | apply r_assign)); (focus (simp only [Tget_set, T.get_n, T.get_e, Nat.reduceEqDiff, Nat.reduceDiv, Nat.reduceMod, Nat.reduceSub, ↓reduceIte, if_true, if_false] <;> rfl)); (focus (exact Nat.le_of_ble_eq_true rfl)))
      | ((with_reducible apply r_condT); (focus (simp only [Tget_set, ↓reduceIte] <;> rfl)))
      | ((with_reducible (first | apply r_any | apply r_cond)); focus (simp only [↓reduceIte, clsOf, Fr.ev, ofV, ofA, ofS, put_mk, pureOp, Nat.reduceLT, stepOp, stV_mk, stepAny, wantedA_none, w8] <;> rfl))
      | (with_reducible rw [ifQ_t])
      | (with_reducible rw [ifQ_f])
      | (with_reducible refine ifQ_intro ?_ ?_ <;> intro hb))
      refine r_loop (I := fun nn fr s1 => ∃ lc3 tt3 h3 i b3 m3, fr = ⟨F, lc3, 80, tt3, [], .no⟩ ∧ s1 = ⟨h3, F + 1⟩ ∧ i ≤ L.length ∧ nn = L.length - i ∧ lc2 ≤ lc3 ∧ lc3 + nn * 1000 ≤ lc2 + 900000 ∧ tt3.get 0 = some (.int .i64 (N : Int)) ∧ tt3.get 1 = some a ∧ tt3.get 5 = some lo ∧ tt3.get 6 = some (.int .i64 (s : Int)) ∧ tt3.get 7 = some (.slice (ky F (lc + 3 + 1)) 0 0 N (some N)) ∧ tt3.get 8 = some (.bool m3) ∧ tt3.get 9 = some (.int .i64 (i : Int)) ∧ Ev F lc 0 0 h1 h3 ∧ hget h3 (ky F (lc + 3 + 1)) = some (bRow b3) ∧ RI N E s b3 ∧ PI N E s b i b3 m3) (n := L.length) ?_ ?_ ?_
      · omega
      · exact ⟨_, _, _, 0, b, false, rfl, rfl, Nat.zero_le _, (Nat.sub_zero _).symm, by omega, by omega, (by first | (simp only [Tget_set, Nat.reduceEqDiff, ↓reduceIte, w0] <;> rfl) | rfl), (by first | (simp only [Tget_set, Nat.reduceEqDiff, ↓reduceIte, w1] <;> rfl) | rfl), (by first | (simp only [Tget_set, Nat.reduceEqDiff, ↓reduceIte, w5] <;> rfl) | rfl), (by first | (simp only [Tget_set, Nat.reduceEqDiff, ↓reduceIte, w6] <;> rfl) | rfl), (by first | (simp only [Tget_set, Nat.reduceEqDiff, ↓reduceIte, w7] <;> rfl) | rfl), (by first | (simp only [Tget_set, Nat.reduceEqDiff, ↓reduceIte] <;> rfl) | rfl), (by first | (simp only [Tget_set, ↓reduceIte] <;> rfl) | rfl), hev2, hrow2, hR2, PI.init N E s b⟩
      rintro nn fr s1 ⟨lc3, tt3, h3, i, b3, m3, rfl, rfl, hi, rfl, hl3, hlc3, v0, v1, v5, v6, v7, v8, v9, hev3, hrow3, hR3, hP3⟩
      have hlow3 := hS.trans hev3.low
      have hbl3 := hR3.len
      have LN := rLen1_L (h2 := h3) Tryz.underlying37 hA
      by_cases hil : i < L.length
      · obtain ⟨b0, o0, eo0, cap0, x, y, rfl, hb1, hb2, hxy, r0, r1, r2⟩ := edge_at (hA0.move ((EqI.refl 0 F h).call hlow3 (Nat.le_refl F))) hil
        rw [hE] at hxy
        by_cases hx : x < 0
        · have hsh : shut N s b3 (x, y) := fun hok => absurd hok (fun ⟨k1, k2, k3, k4⟩ => by simp only at k1 k2 k3 k4; omega)
          repeat' (first
          | with_reducible refine r_seq ?_
          | with_reducible refine r_next ?_
          | with_reducible refine r_block ?_
          | with_reducible refine r_seq_exit ?_
          | with_reducible refine r_seq_ret ?_
          | with_reducible refine r_blk_n ?_
          | with_reducible refine r_blk_ret ?_
          | with_reducible refine r_blk_hit ?_
          | with_reducible refine r_blk_miss rfl ?_
          | with_reducible refine r_skip ?_
          | with_reducible refine r_exit ?_
          | with_reducible refine r_ret ?_
          | with_reducible refine r_rq_exit ?_
          | with_reducible refine r_rq_ret ?_
          | ((with_reducible apply r_regA); (focus (simp only [List.append_eq, List.cons_append, List.nil_append] <;> rfl)); (focus (first | exact Nat.le_of_ble_eq_true rfl | (simp only [List.length_cons, List.length_nil]; omega))))
          | ((with_reducible refine r_reg (List.toList_toArray) ?_ ?_); focus (first | exact Nat.le_of_ble_eq_true rfl | (simp only [List.length_cons, List.length_nil]; omega)))
          | ((with_reducible apply r_drawL); (focus kernel_rfl); (focus kernel_rfl); (focus (first | exact Nat.le_of_ble_eq_true rfl | (simp only [List.length_cons, List.length_nil]; omega))))
          | ((with_reducible apply r_end); focus (simp only [Nat.add_assoc, Nat.reduceAdd, Nat.zero_add] <;> rfl))
          | ((with_reducible (first | apply r_move | apply r_assign)); (focus (simp only [Tget_set, Nat.reduceEqDiff, ↓reduceIte, v1, v9] <;> rfl)); (focus (exact Nat.le_of_ble_eq_true rfl)))
          | ((with_reducible apply r_condT); (focus (simp only [Tget_set, ↓reduceIte] <;> rfl)))
          | ((with_reducible (first | apply r_any | apply r_cond)); focus (simp only [↓reduceIte, wantedA_eq, gBool_f, Bool.not_true, clsOf, clsCall, Fr.ev, ofV, ofA, ofS, put_mk, pureOp, readOp, pFA, pFA1, pFA2, rLd, oneCell_one, pBin, binA, intOp_lss, pPick, List.getElem?_cons_zero, List.getElem?_cons_succ, Nat.add_zero, Nat.reduceLT, Nat.reduceEqDiff, Nat.add_eq, loadA_w, loadW_s, binA, stepOp, stV_mk, sz2, ag2, Tryz.underlying83, stepAny, wantedA_none, rCall, rLen, Tget_set, LN, lt_t hil, pIA_s Tryz.underlying37 sz83 hil, r1, r2, ls_t hx, intOp_add (inR_succ hil (show L.length ≤ maxLen by omega))] <;> rfl))
          | (with_reducible rw [ifQ_t])
          | (with_reducible rw [ifQ_f])
          | (with_reducible refine ifQ_intro ?_ ?_ <;> intro hb))
          exact r_rq_n (k := L.length - (i + 1)) (by omega) ⟨_, _, _, i + 1, b3, m3, rfl, rfl, by omega, rfl, by omega, by omega, (by first | (simp only [Tget_set, Nat.reduceEqDiff, ↓reduceIte, v0] <;> rfl) | rfl), (by first | (simp only [Tget_set, Nat.reduceEqDiff, ↓reduceIte, v1] <;> rfl) | rfl), (by first | (simp only [Tget_set, Nat.reduceEqDiff, ↓reduceIte, v5] <;> rfl) | rfl), (by first | (simp only [Tget_set, Nat.reduceEqDiff, ↓reduceIte, v6] <;> rfl) | rfl), (by first | (simp only [Tget_set, Nat.reduceEqDiff, ↓reduceIte, v7] <;> rfl) | rfl), (by first | (simp only [Tget_set, Nat.reduceEqDiff, ↓reduceIte, v8] <;> rfl) | rfl), (by first | (simp only [Tget_set, ↓reduceIte] <;> rfl) | rfl), hev3, hrow3, hR3, hP3.skip hxy hsh⟩
        · by_cases hy : y < 0
          · have hsh : shut N s b3 (x, y) := fun hok => absurd hok (fun ⟨k1, k2, k3, k4⟩ => by simp only at k1 k2 k3 k4; omega)
            repeat' (first
            | with_reducible refine r_seq ?_
            | with_reducible refine r_next ?_
            | with_reducible refine r_block ?_
            | with_reducible refine r_seq_exit ?_
            | with_reducible refine r_seq_ret ?_
            | with_reducible refine r_blk_n ?_
            | with_reducible refine r_blk_ret ?_
            | with_reducible refine r_blk_hit ?_
            | with_reducible refine r_blk_miss rfl ?_
            | with_reducible refine r_skip ?_
            | with_reducible refine r_exit ?_
            | with_reducible refine r_ret ?_
            | with_reducible refine r_rq_exit ?_
            | with_reducible refine r_rq_ret ?_
            | ((with_reducible apply r_regA); (focus (simp only [List.append_eq, List.cons_append, List.nil_append] <;> rfl)); (focus (first | exact Nat.le_of_ble_eq_true rfl | (simp only [List.length_cons, List.length_nil]; omega))))
            | ((with_reducible refine r_reg (List.toList_toArray) ?_ ?_); focus (first | exact Nat.le_of_ble_eq_true rfl | (simp only [List.length_cons, List.length_nil]; omega)))
            | ((with_reducible apply r_drawL); (focus kernel_rfl); (focus kernel_rfl); (focus (first | exact Nat.le_of_ble_eq_true rfl | (simp only [List.length_cons, List.length_nil]; omega))))
            | ((with_reducible apply r_end); focus (simp only [Nat.add_assoc, Nat.reduceAdd, Nat.zero_add] <;> rfl))
            | ((with_reducible (first | apply r_move | apply r_assign)); (focus (simp only [Tget_set, Nat.reduceEqDiff, ↓reduceIte, v1, v9] <;> rfl)); (focus (exact Nat.le_of_ble_eq_true rfl)))
            | ((with_reducible apply r_condT); (focus (simp only [Tget_set, ↓reduceIte] <;> rfl)))
            | ((with_reducible (first | apply r_any | apply r_cond)); focus (simp only [↓reduceIte, wantedA_eq, gBool_f, Bool.not_true, Bool.not_false, clsOf, clsCall, Fr.ev, ofV, ofA, ofS, put_mk, pureOp, readOp, pFA, pFA1, pFA2, rLd, oneCell_one, pBin, binA, intOp_lss, pPick, List.getElem?_cons_zero, List.getElem?_cons_succ, Nat.add_zero, Nat.reduceLT, Nat.reduceEqDiff, Nat.add_eq, loadA_w, loadW_s, binA, stepOp, stV_mk, sz2, ag2, Tryz.underlying83, stepAny, wantedA_none, rCall, rLen, Tget_set, LN, lt_t hil, pIA_s Tryz.underlying37 sz83 hil, r1, r2, ls_f hx, ls_t hy, intOp_add (inR_succ hil (show L.length ≤ maxLen by omega))] <;> rfl))
            | (with_reducible rw [ifQ_t])
            | (with_reducible rw [ifQ_f])
            | (with_reducible refine ifQ_intro ?_ ?_ <;> intro hb))
            exact r_rq_n (k := L.length - (i + 1)) (by omega) ⟨_, _, _, i + 1, b3, m3, rfl, rfl, by omega, rfl, by omega, by omega, (by first | (simp only [Tget_set, Nat.reduceEqDiff, ↓reduceIte, v0] <;> rfl) | rfl), (by first | (simp only [Tget_set, Nat.reduceEqDiff, ↓reduceIte, v1] <;> rfl) | rfl), (by first | (simp only [Tget_set, Nat.reduceEqDiff, ↓reduceIte, v5] <;> rfl) | rfl), (by first | (simp only [Tget_set, Nat.reduceEqDiff, ↓reduceIte, v6] <;> rfl) | rfl), (by first | (simp only [Tget_set, Nat.reduceEqDiff, ↓reduceIte, v7] <;> rfl) | rfl), (by first | (simp only [Tget_set, Nat.reduceEqDiff, ↓reduceIte, v8] <;> rfl) | rfl), (by first | (simp only [Tget_set, ↓reduceIte] <;> rfl) | rfl), hev3, hrow3, hR3, hP3.skip hxy hsh⟩
          · by_cases hx2 : (N : Int) ≤ x
            · have hsh : shut N s b3 (x, y) := fun hok => absurd hok (fun ⟨k1, k2, k3, k4⟩ => by simp only at k1 k2 k3 k4; omega)
              repeat' (first
              | with_reducible refine r_seq ?_
              | with_reducible refine r_next ?_
              | with_reducible refine r_block ?_
              | with_reducible refine r_seq_exit ?_
              | with_reducible refine r_seq_ret ?_
              | with_reducible refine r_blk_n ?_
              | with_reducible refine r_blk_ret ?_
              | with_reducible refine r_blk_hit ?_
              | with_reducible refine r_blk_miss rfl ?_
              | with_reducible refine r_skip ?_
              | with_reducible refine r_exit ?_
              | with_reducible refine r_ret ?_
              | with_reducible refine r_rq_exit ?_
              | with_reducible refine r_rq_ret ?_
              | ((with_reducible apply r_regA); (focus (simp only [List.append_eq, List.cons_append, List.nil_append] <;> rfl)); (focus (first | exact Nat.le_of_ble_eq_true rfl | (simp only [List.length_cons, List.length_nil]; omega))))
              | ((with_reducible refine r_reg (List.toList_toArray) ?_ ?_); focus (first | exact Nat.le_of_ble_eq_true rfl | (simp only [List.length_cons, List.length_nil]; omega)))
              | ((with_reducible apply r_drawL); (focus kernel_rfl); (focus kernel_rfl); (focus (first | exact Nat.le_of_ble_eq_true rfl | (simp only [List.length_cons, List.length_nil]; omega))))
              | ((with_reducible apply r_end); focus (simp only [Nat.add_assoc, Nat.reduceAdd, Nat.zero_add] <;> rfl))
              | ((with_reducible (first | apply r_move | apply r_assign)); (focus (simp only [Tget_set, Nat.reduceEqDiff, ↓reduceIte, v1, v9] <;> rfl)); (focus (exact Nat.le_of_ble_eq_true rfl)))
              | ((with_reducible apply r_condT); (focus (simp only [Tget_set, ↓reduceIte] <;> rfl)))
              | ((with_reducible (first | apply r_any | apply r_cond)); focus (simp only [↓reduceIte, wantedA_eq, gBool_f, Bool.not_true, Bool.not_false, clsOf, clsCall, Fr.ev, ofV, ofA, ofS, put_mk, pureOp, readOp, pFA, pFA1, pFA2, rLd, oneCell_one, pBin, binA, intOp_lss, intOp_geq, pPick, List.getElem?_cons_zero, List.getElem?_cons_succ, Nat.add_zero, Nat.reduceLT, Nat.reduceEqDiff, Nat.add_eq, loadA_w, loadW_s, binA, stepOp, stV_mk, sz2, ag2, Tryz.underlying83, stepAny, wantedA_none, rCall, rLen, Tget_set, v0, LN, lt_t hil, pIA_s Tryz.underlying37 sz83 hil, r1, r2, ls_f hx, ls_f hy, ge_t hx2, intOp_add (inR_succ hil (show L.length ≤ maxLen by omega))] <;> rfl))
              | (with_reducible rw [ifQ_t])
              | (with_reducible rw [ifQ_f])
              | (with_reducible refine ifQ_intro ?_ ?_ <;> intro hb))
              exact r_rq_n (k := L.length - (i + 1)) (by omega) ⟨_, _, _, i + 1, b3, m3, rfl, rfl, by omega, rfl, by omega, by omega, (by first | (simp only [Tget_set, Nat.reduceEqDiff, ↓reduceIte, v0] <;> rfl) | rfl), (by first | (simp only [Tget_set, Nat.reduceEqDiff, ↓reduceIte, v1] <;> rfl) | rfl), (by first | (simp only [Tget_set, Nat.reduceEqDiff, ↓reduceIte, v5] <;> rfl) | rfl), (by first | (simp only [Tget_set, Nat.reduceEqDiff, ↓reduceIte, v6] <;> rfl) | rfl), (by first | (simp only [Tget_set, Nat.reduceEqDiff, ↓reduceIte, v7] <;> rfl) | rfl), (by first | (simp only [Tget_set, Nat.reduceEqDiff, ↓reduceIte, v8] <;> rfl) | rfl), (by first | (simp only [Tget_set, ↓reduceIte] <;> rfl) | rfl), hev3, hrow3, hR3, hP3.skip hxy hsh⟩
            · by_cases hy2 : (N : Int) ≤ y
              · have hsh : shut N s b3 (x, y) := fun hok => absurd hok (fun ⟨k1, k2, k3, k4⟩ => by simp only at k1 k2 k3 k4; omega)
                repeat' (first
                | with_reducible refine r_seq ?_
                | with_reducible refine r_next ?_
                | with_reducible refine r_block ?_
                | with_reducible refine r_seq_exit ?_
                | with_reducible refine r_seq_ret ?_
                | with_reducible refine r_blk_n ?_
                | with_reducible refine r_blk_ret ?_
                | with_reducible refine r_blk_hit ?_
                | with_reducible refine r_blk_miss rfl ?_
                | with_reducible refine r_skip ?_
                | with_reducible refine r_exit ?_
                | with_reducible refine r_ret ?_
                | with_reducible refine r_rq_exit ?_
                | with_reducible refine r_rq_ret ?_
                | ((with_reducible apply r_regA); (focus (simp only [List.append_eq, List.cons_append, List.nil_append] <;> rfl)); (focus (first | exact Nat.le_of_ble_eq_true rfl | (simp only [List.length_cons, List.length_nil]; omega))))
                | ((with_reducible refine r_reg (List.toList_toArray) ?_ ?_); focus (first | exact Nat.le_of_ble_eq_true rfl | (simp only [List.length_cons, List.length_nil]; omega)))
                | ((with_reducible apply r_drawL); (focus kernel_rfl); (focus kernel_rfl); (focus (first | exact Nat.le_of_ble_eq_true rfl | (simp only [List.length_cons, List.length_nil]; omega))))
                | ((with_reducible apply r_end); focus (simp only [Nat.add_assoc, Nat.reduceAdd, Nat.zero_add] <;> rfl))
                | ((with_reducible (first | apply r_move | apply r_assign)); (focus (simp only [Tget_set, Nat.reduceEqDiff, ↓reduceIte, v1, v9] <;> rfl)); (focus (exact Nat.le_of_ble_eq_true rfl)))
                | ((with_reducible apply r_condT); (focus (simp only [Tget_set, ↓reduceIte] <;> rfl)))
                | ((with_reducible (first | apply r_any | apply r_cond)); focus (simp only [↓reduceIte, wantedA_eq, gBool_f, Bool.not_false, clsOf, clsCall, Fr.ev, ofV, ofA, ofS, put_mk, pureOp, readOp, pFA, pFA1, pFA2, rLd, oneCell_one, pBin, binA, intOp_lss, intOp_geq, pPick, List.getElem?_cons_zero, List.getElem?_cons_succ, Nat.add_zero, Nat.reduceLT, Nat.reduceEqDiff, Nat.add_eq, loadA_w, loadW_s, binA, stepOp, stV_mk, sz2, ag2, Tryz.underlying83, stepAny, wantedA_none, rCall, rLen, Tget_set, v0, LN, lt_t hil, pIA_s Tryz.underlying37 sz83 hil, r1, r2, ls_f hx, ls_f hy, ge_f hx2, ge_t hy2, intOp_add (inR_succ hil (show L.length ≤ maxLen by omega))] <;> rfl))
                | (with_reducible rw [ifQ_t])
                | (with_reducible rw [ifQ_f])
                | (with_reducible refine ifQ_intro ?_ ?_ <;> intro hb))
                exact r_rq_n (k := L.length - (i + 1)) (by omega) ⟨_, _, _, i + 1, b3, m3, rfl, rfl, by omega, rfl, by omega, by omega, (by first | (simp only [Tget_set, Nat.reduceEqDiff, ↓reduceIte, v0] <;> rfl) | rfl), (by first | (simp only [Tget_set, Nat.reduceEqDiff, ↓reduceIte, v1] <;> rfl) | rfl), (by first | (simp only [Tget_set, Nat.reduceEqDiff, ↓reduceIte, v5] <;> rfl) | rfl), (by first | (simp only [Tget_set, Nat.reduceEqDiff, ↓reduceIte, v6] <;> rfl) | rfl), (by first | (simp only [Tget_set, Nat.reduceEqDiff, ↓reduceIte, v7] <;> rfl) | rfl), (by first | (simp only [Tget_set, Nat.reduceEqDiff, ↓reduceIte, v8] <;> rfl) | rfl), (by first | (simp only [Tget_set, ↓reduceIte] <;> rfl) | rfl), hev3, hrow3, hR3, hP3.skip hxy hsh⟩
              · obtain ⟨xk, rfl⟩ := Int.eq_ofNat_of_zero_le (Int.not_lt.1 hx)
                obtain ⟨yk, rfl⟩ := Int.eq_ofNat_of_zero_le (Int.not_lt.1 hy)
                have hxN : xk < N := by omega
                have hyN : yk < N := by omega
                have hok : okE N ((xk : Int), (yk : Int)) := ⟨by simp, by simp only; omega, by simp, by simp only; omega⟩
                obtain ⟨vy, hby⟩ : ∃ v, b3[yk]? = some v := ⟨b3[yk]'(by omega), by simp⟩
                have rdy := rd_b hby
                by_cases hxs0 : xk = s
                · have hxs : (((xk : Nat) : Int) == ((s : Nat) : Int)) = true := beq_iff_eq.2 (by omega)
                  cases vy with
                  | true =>
                    have hsh : shut N s b3 ((xk : Int), (yk : Int)) := fun _ _ => hby
                    repeat' (first
                    | with_reducible refine r_seq ?_
                    | with_reducible refine r_next ?_
                    | with_reducible refine r_block ?_
                    | with_reducible refine r_seq_exit ?_
                    | with_reducible refine r_seq_ret ?_
                    | with_reducible refine r_blk_n ?_
                    | with_reducible refine r_blk_ret ?_
                    | with_reducible refine r_blk_hit ?_
                    | with_reducible refine r_blk_miss rfl ?_
                    | with_reducible refine r_skip ?_
                    | with_reducible refine r_exit ?_
                    | with_reducible refine r_ret ?_
                    | with_reducible refine r_rq_exit ?_
                    | with_reducible refine r_rq_ret ?_
                    | ((with_reducible apply r_regA); (focus (simp only [List.append_eq, List.cons_append, List.nil_append] <;> rfl)); (focus (first | exact Nat.le_of_ble_eq_true rfl | (simp only [List.length_cons, List.length_nil]; omega))))
                    | ((with_reducible refine r_reg (List.toList_toArray) ?_ ?_); focus (first | exact Nat.le_of_ble_eq_true rfl | (simp only [List.length_cons, List.length_nil]; omega)))
                    | ((with_reducible apply r_drawL); (focus kernel_rfl); (focus kernel_rfl); (focus (first | exact Nat.le_of_ble_eq_true rfl | (simp only [List.length_cons, List.length_nil]; omega))))
                    | ((with_reducible apply r_end); focus (simp only [Nat.add_assoc, Nat.reduceAdd, Nat.zero_add] <;> rfl))
                    | ((with_reducible (first | apply r_move | apply r_assign)); (focus (simp only [Tget_set, Nat.reduceEqDiff, ↓reduceIte, v1, v6, v9] <;> rfl)); (focus (exact Nat.le_of_ble_eq_true rfl)))
                    | ((with_reducible apply r_condT); (focus (simp only [Tget_set, ↓reduceIte] <;> rfl)))
                    | ((with_reducible (first | apply r_any | apply r_cond)); focus (simp only [↓reduceIte, wantedA_eq, gBool_t, gBool_f, Bool.not_true, Bool.not_false, clsOf, clsCall, Fr.ev, ofV, ofA, ofS, put_mk, pureOp, readOp, pFA, pFA1, pFA2, rLd, oneCell_one, pBin, binA, intOp_eql, intOp_lss, intOp_geq, pPick, List.getElem?_cons_zero, List.getElem?_cons_succ, Nat.zero_add, Nat.add_zero, Nat.reduceLT, Nat.reduceEqDiff, Nat.add_eq, loadA_w, loadW_s, pUn_not, binA, stepOp, stV_mk, sz2, ag2, sz4, ag4, Tryz.underlying83, stepAny, wantedA_none, rCall, rLen, Tget_set, v0, v7, LN, lt_t hil, pIA_s Tryz.underlying37 sz83 hil, r1, r2, ls_f hx, ls_f hy, ge_f hx2, ge_f hy2, hxs, hrow3, pIA_s Tryz.underlying81 sz4 hyN, rdy, intOp_add (inR_succ hil (show L.length ≤ maxLen by omega))] <;> rfl))
                    | (with_reducible rw [ifQ_t])
                    | (with_reducible rw [ifQ_f])
                    | (with_reducible refine ifQ_intro ?_ ?_ <;> intro hb))
                    exact r_rq_n (k := L.length - (i + 1)) (by omega) ⟨_, _, _, i + 1, b3, m3, rfl, rfl, by omega, rfl, by omega, by omega, (by first | (simp only [Tget_set, Nat.reduceEqDiff, ↓reduceIte, v0] <;> rfl) | rfl), (by first | (simp only [Tget_set, Nat.reduceEqDiff, ↓reduceIte, v1] <;> rfl) | rfl), (by first | (simp only [Tget_set, Nat.reduceEqDiff, ↓reduceIte, v5] <;> rfl) | rfl), (by first | (simp only [Tget_set, Nat.reduceEqDiff, ↓reduceIte, v6] <;> rfl) | rfl), (by first | (simp only [Tget_set, Nat.reduceEqDiff, ↓reduceIte, v7] <;> rfl) | rfl), (by first | (simp only [Tget_set, Nat.reduceEqDiff, ↓reduceIte, v8] <;> rfl) | rfl), (by first | (simp only [Tget_set, ↓reduceIte] <;> rfl) | rfl), hev3, hrow3, hR3, hP3.skip hxy hsh⟩
                  | false =>
                    have hyb : yk < b3.length := by omega
                    repeat' (first
                    | with_reducible refine r_seq ?_
                    | with_reducible refine r_next ?_
                    | with_reducible refine r_block ?_
                    | with_reducible refine r_seq_exit ?_
                    | with_reducible refine r_seq_ret ?_
                    | with_reducible refine r_blk_n ?_
                    | with_reducible refine r_blk_ret ?_
                    | with_reducible refine r_blk_hit ?_
                    | with_reducible refine r_blk_miss rfl ?_
                    | with_reducible refine r_skip ?_
                    | with_reducible refine r_exit ?_
                    | with_reducible refine r_ret ?_
                    | with_reducible refine r_rq_exit ?_
                    | with_reducible refine r_rq_ret ?_
                    | ((with_reducible apply r_regA); (focus (simp only [List.append_eq, List.cons_append, List.nil_append] <;> rfl)); (focus (first | exact Nat.le_of_ble_eq_true rfl | (simp only [List.length_cons, List.length_nil]; omega))))
                    | ((with_reducible refine r_reg (List.toList_toArray) ?_ ?_); focus (first | exact Nat.le_of_ble_eq_true rfl | (simp only [List.length_cons, List.length_nil]; omega)))
                    | ((with_reducible apply r_drawL); (focus kernel_rfl); (focus kernel_rfl); (focus (first | exact Nat.le_of_ble_eq_true rfl | (simp only [List.length_cons, List.length_nil]; omega))))
                    | ((with_reducible apply r_end); focus (simp only [Nat.add_assoc, Nat.reduceAdd, Nat.zero_add] <;> rfl))
                    | ((with_reducible (first | apply r_move | apply r_assign)); (focus (simp only [Tget_set, Nat.reduceEqDiff, ↓reduceIte, v1, v6, v7, v9] <;> rfl)); (focus (exact Nat.le_of_ble_eq_true rfl)))
                    | ((with_reducible apply r_condT); (focus (simp only [Tget_set, ↓reduceIte] <;> rfl)))
                    | ((with_reducible (first | apply r_any | apply r_cond)); focus (simp only [↓reduceIte, wantedA_eq, gBool_t, gBool_f, Bool.not_true, Bool.not_false, clsOf, clsCall, Fr.ev, ofV, ofA, ofS, AV.cells, put_mk, put_none, pureOp, readOp, pFA, pFA1, pFA2, rLd, oneCell_one, pBin, binA, intOp_eql, intOp_lss, intOp_geq, pPick, List.length_cons, List.length_nil, List.getElem?_cons_zero, List.getElem?_cons_succ, Nat.zero_add, Nat.add_zero, Nat.reduceLT, Nat.reduceEqDiff, Nat.add_eq, loadA_w, loadW_s, aSt_w, stOut_s, pUn_not, actOp, binA, stepOp, stHeavy, stV_mk, stO_mk, sz2, ag2, sz4, ag4, Tryz.underlying83, stepAny, wantedA_none, rCall, rLen, Tget_set, v0, v7, LN, lt_t hil, pIA_s Tryz.underlying37 sz83 hil, r1, r2, ls_f hx, ls_f hy, ge_f hx2, ge_f hy2, hxs, hrow3, pIA_s Tryz.underlying81 sz4 hyN, rdy, wr_b hyb, intOp_add (inR_succ hil (show L.length ≤ maxLen by omega))] <;> rfl))
                    | (with_reducible rw [ifQ_t])
                    | (with_reducible rw [ifQ_f])
                    | (with_reducible refine ifQ_intro ?_ ?_ <;> intro hb))
                    exact r_rq_n (k := L.length - (i + 1)) (by omega) ⟨_, _, _, i + 1, b3.set yk true, true, rfl, rfl, by omega, rfl, by omega, by omega, (by first | (simp only [Tget_set, Nat.reduceEqDiff, ↓reduceIte, v0] <;> rfl) | rfl), (by first | (simp only [Tget_set, Nat.reduceEqDiff, ↓reduceIte, v1] <;> rfl) | rfl), (by first | (simp only [Tget_set, Nat.reduceEqDiff, ↓reduceIte, v5] <;> rfl) | rfl), (by first | (simp only [Tget_set, Nat.reduceEqDiff, ↓reduceIte, v6] <;> rfl) | rfl), (by first | (simp only [Tget_set, Nat.reduceEqDiff, ↓reduceIte, v7] <;> rfl) | rfl), (by first | (simp only [Tget_set, Nat.reduceEqDiff, ↓reduceIte] <;> rfl) | rfl), (by first | (simp only [Tget_set, ↓reduceIte] <;> rfl) | rfl), hev3.set (by omega) (by omega) (.inr (Nat.zero_le _)), by rw [hget_hset, if_pos rfl], hR3.mark hsl (List.mem_of_getElem? hxy) hok (.inl (by simp only; omega)), hP3.mark hby⟩
                · have hxs : (((xk : Nat) : Int) == ((s : Nat) : Int)) = false := beq_eq_false_iff_ne.2 (by omega)
                  have hne : ¬ ((xk : Nat) : Int) = ((s : Nat) : Int) := by omega
                  obtain ⟨vx, hbx⟩ : ∃ v, b3[xk]? = some v := ⟨b3[xk]'(by omega), by simp⟩
                  have rdx := rd_b hbx
                  cases vx with
                  | false =>
                    have hsh : shut N s b3 ((xk : Int), (yk : Int)) := fun _ hf => by
                      rcases hf with hf | hf
                      · exact absurd hf hne
                      · simp only [Int.toNat_natCast] at hf; rw [hbx] at hf; cases hf
                    repeat' (first
                    | with_reducible refine r_seq ?_
                    | with_reducible refine r_next ?_
                    | with_reducible refine r_block ?_
                    | with_reducible refine r_seq_exit ?_
                    | with_reducible refine r_seq_ret ?_
                    | with_reducible refine r_blk_n ?_
                    | with_reducible refine r_blk_ret ?_
                    | with_reducible refine r_blk_hit ?_
                    | with_reducible refine r_blk_miss rfl ?_
                    | with_reducible refine r_skip ?_
                    | with_reducible refine r_exit ?_
                    | with_reducible refine r_ret ?_
                    | with_reducible refine r_rq_exit ?_
                    | with_reducible refine r_rq_ret ?_
                    | ((with_reducible apply r_regA); (focus (simp only [List.append_eq, List.cons_append, List.nil_append] <;> rfl)); (focus (first | exact Nat.le_of_ble_eq_true rfl | (simp only [List.length_cons, List.length_nil]; omega))))
                    | ((with_reducible refine r_reg (List.toList_toArray) ?_ ?_); focus (first | exact Nat.le_of_ble_eq_true rfl | (simp only [List.length_cons, List.length_nil]; omega)))
                    | ((with_reducible apply r_drawL); (focus kernel_rfl); (focus kernel_rfl); (focus (first | exact Nat.le_of_ble_eq_true rfl | (simp only [List.length_cons, List.length_nil]; omega))))
                    | ((with_reducible apply r_end); focus (simp only [Nat.add_assoc, Nat.reduceAdd, Nat.zero_add] <;> rfl))
                    | ((with_reducible (first | apply r_move | apply r_assign)); (focus (simp only [Tget_set, Nat.reduceEqDiff, ↓reduceIte, v1, v6, v9] <;> rfl)); (focus (exact Nat.le_of_ble_eq_true rfl)))
                    | ((with_reducible apply r_condT); (focus (simp only [Tget_set, ↓reduceIte] <;> rfl)))
                    | ((with_reducible (first | apply r_any | apply r_cond)); focus (simp only [↓reduceIte, wantedA_eq, gBool_t, gBool_f, Bool.not_false, clsOf, clsCall, Fr.ev, ofV, ofA, ofS, put_mk, pureOp, readOp, pFA, pFA1, pFA2, rLd, oneCell_one, pBin, binA, intOp_eql, intOp_lss, intOp_geq, pPick, List.getElem?_cons_zero, List.getElem?_cons_succ, Nat.zero_add, Nat.add_zero, Nat.reduceLT, Nat.reduceEqDiff, Nat.add_eq, loadA_w, loadW_s, binA, stepOp, stV_mk, sz2, ag2, sz4, ag4, Tryz.underlying83, stepAny, wantedA_none, rCall, rLen, Tget_set, v0, v7, LN, lt_t hil, pIA_s Tryz.underlying37 sz83 hil, r1, r2, ls_f hx, ls_f hy, ge_f hx2, ge_f hy2, hxs, hrow3, pIA_s Tryz.underlying81 sz4 hxN, rdx, intOp_add (inR_succ hil (show L.length ≤ maxLen by omega))] <;> rfl))
                    | (with_reducible rw [ifQ_t])
                    | (with_reducible rw [ifQ_f])
                    | (with_reducible refine ifQ_intro ?_ ?_ <;> intro hb))
                    exact r_rq_n (k := L.length - (i + 1)) (by omega) ⟨_, _, _, i + 1, b3, m3, rfl, rfl, by omega, rfl, by omega, by omega, (by first | (simp only [Tget_set, Nat.reduceEqDiff, ↓reduceIte, v0] <;> rfl) | rfl), (by first | (simp only [Tget_set, Nat.reduceEqDiff, ↓reduceIte, v1] <;> rfl) | rfl), (by first | (simp only [Tget_set, Nat.reduceEqDiff, ↓reduceIte, v5] <;> rfl) | rfl), (by first | (simp only [Tget_set, Nat.reduceEqDiff, ↓reduceIte, v6] <;> rfl) | rfl), (by first | (simp only [Tget_set, Nat.reduceEqDiff, ↓reduceIte, v7] <;> rfl) | rfl), (by first | (simp only [Tget_set, Nat.reduceEqDiff, ↓reduceIte, v8] <;> rfl) | rfl), (by first | (simp only [Tget_set, ↓reduceIte] <;> rfl) | rfl), hev3, hrow3, hR3, hP3.skip hxy hsh⟩
                  | true =>
                    cases vy with
                    | true =>
                      have hsh : shut N s b3 ((xk : Int), (yk : Int)) := fun _ _ => hby
                      repeat' (first
                      | with_reducible refine r_seq ?_
                      | with_reducible refine r_next ?_
                      | with_reducible refine r_block ?_
                      | with_reducible refine r_seq_exit ?_
                      | with_reducible refine r_seq_ret ?_
                      | with_reducible refine r_blk_n ?_
                      | with_reducible refine r_blk_ret ?_
                      | with_reducible refine r_blk_hit ?_
                      | with_reducible refine r_blk_miss rfl ?_
                      | with_reducible refine r_skip ?_
                      | with_reducible refine r_exit ?_
                      | with_reducible refine r_ret ?_
                      | with_reducible refine r_rq_exit ?_
                      | with_reducible refine r_rq_ret ?_
                      | ((with_reducible apply r_regA); (focus (simp only [List.append_eq, List.cons_append, List.nil_append] <;> rfl)); (focus (first | exact Nat.le_of_ble_eq_true rfl | (simp only [List.length_cons, List.length_nil]; omega))))
                      | ((with_reducible refine r_reg (List.toList_toArray) ?_ ?_); focus (first | exact Nat.le_of_ble_eq_true rfl | (simp only [List.length_cons, List.length_nil]; omega)))
                      | ((with_reducible apply r_drawL); (focus kernel_rfl); (focus kernel_rfl); (focus (first | exact Nat.le_of_ble_eq_true rfl | (simp only [List.length_cons, List.length_nil]; omega))))
                      | ((with_reducible apply r_end); focus (simp only [Nat.add_assoc, Nat.reduceAdd, Nat.zero_add] <;> rfl))
                      | ((with_reducible (first | apply r_move | apply r_assign)); (focus (simp only [Tget_set, Nat.reduceEqDiff, ↓reduceIte, v1, v6, v9] <;> rfl)); (focus (exact Nat.le_of_ble_eq_true rfl)))
                      | ((with_reducible apply r_condT); (focus (simp only [Tget_set, ↓reduceIte] <;> rfl)))
                      | ((with_reducible (first | apply r_any | apply r_cond)); focus (simp only [↓reduceIte, wantedA_eq, gBool_t, gBool_f, Bool.not_true, Bool.not_false, clsOf, clsCall, Fr.ev, ofV, ofA, ofS, put_mk, pureOp, readOp, pFA, pFA1, pFA2, rLd, oneCell_one, pBin, binA, intOp_eql, intOp_lss, intOp_geq, pPick, List.getElem?_cons_zero, List.getElem?_cons_succ, Nat.zero_add, Nat.add_zero, Nat.reduceLT, Nat.reduceEqDiff, Nat.add_eq, loadA_w, loadW_s, pUn_not, binA, stepOp, stV_mk, sz2, ag2, sz4, ag4, Tryz.underlying83, stepAny, wantedA_none, rCall, rLen, Tget_set, v0, v7, LN, lt_t hil, pIA_s Tryz.underlying37 sz83 hil, r1, r2, ls_f hx, ls_f hy, ge_f hx2, ge_f hy2, hxs, pIA_s Tryz.underlying81 sz4 hxN, rdx, hrow3, pIA_s Tryz.underlying81 sz4 hyN, rdy, intOp_add (inR_succ hil (show L.length ≤ maxLen by omega))] <;> rfl))
                      | (with_reducible rw [ifQ_t])
                      | (with_reducible rw [ifQ_f])
                      | (with_reducible refine ifQ_intro ?_ ?_ <;> intro hb))
                      exact r_rq_n (k := L.length - (i + 1)) (by omega) ⟨_, _, _, i + 1, b3, m3, rfl, rfl, by omega, rfl, by omega, by omega, (by first | (simp only [Tget_set, Nat.reduceEqDiff, ↓reduceIte, v0] <;> rfl) | rfl), (by first | (simp only [Tget_set, Nat.reduceEqDiff, ↓reduceIte, v1] <;> rfl) | rfl), (by first | (simp only [Tget_set, Nat.reduceEqDiff, ↓reduceIte, v5] <;> rfl) | rfl), (by first | (simp only [Tget_set, Nat.reduceEqDiff, ↓reduceIte, v6] <;> rfl) | rfl), (by first | (simp only [Tget_set, Nat.reduceEqDiff, ↓reduceIte, v7] <;> rfl) | rfl), (by first | (simp only [Tget_set, Nat.reduceEqDiff, ↓reduceIte, v8] <;> rfl) | rfl), (by first | (simp only [Tget_set, ↓reduceIte] <;> rfl) | rfl), hev3, hrow3, hR3, hP3.skip hxy hsh⟩
                    | false =>
                      have hyb : yk < b3.length := by omega
                      repeat' (first
                      | with_reducible refine r_seq ?_
                      | with_reducible refine r_next ?_
                      | with_reducible refine r_block ?_
                      | with_reducible refine r_seq_exit ?_
                      | with_reducible refine r_seq_ret ?_
                      | with_reducible refine r_blk_n ?_
                      | with_reducible refine r_blk_ret ?_
                      | with_reducible refine r_blk_hit ?_
                      | with_reducible refine r_blk_miss rfl ?_
                      | with_reducible refine r_skip ?_
                      | with_reducible refine r_exit ?_
                      | with_reducible refine r_ret ?_
                      | with_reducible refine r_rq_exit ?_
                      | with_reducible refine r_rq_ret ?_
                      | ((with_reducible apply r_regA); (focus (simp only [List.append_eq, List.cons_append, List.nil_append] <;> rfl)); (focus (first | exact Nat.le_of_ble_eq_true rfl | (simp only [List.length_cons, List.length_nil]; omega))))
                      | ((with_reducible refine r_reg (List.toList_toArray) ?_ ?_); focus (first | exact Nat.le_of_ble_eq_true rfl | (simp only [List.length_cons, List.length_nil]; omega)))
                      | ((with_reducible apply r_drawL); (focus kernel_rfl); (focus kernel_rfl); (focus (first | exact Nat.le_of_ble_eq_true rfl | (simp only [List.length_cons, List.length_nil]; omega))))
                      | ((with_reducible apply r_end); focus (simp only [Nat.add_assoc, Nat.reduceAdd, Nat.zero_add] <;> rfl))
                      | ((with_reducible (first | apply r_move | apply r_assign)); (focus (simp only [Tget_set, Nat.reduceEqDiff, ↓reduceIte, v1, v6, v7, v9] <;> rfl)); (focus (exact Nat.le_of_ble_eq_true rfl)))
                      | ((with_reducible apply r_condT); (focus (simp only [Tget_set, ↓reduceIte] <;> rfl)))
                      | ((with_reducible (first | apply r_any | apply r_cond)); focus (simp only [↓reduceIte, wantedA_eq, gBool_t, gBool_f, Bool.not_false, clsOf, clsCall, Fr.ev, ofV, ofA, ofS, AV.cells, put_mk, put_none, pureOp, readOp, pFA, pFA1, pFA2, rLd, oneCell_one, pBin, binA, intOp_eql, intOp_lss, intOp_geq, pPick, List.length_cons, List.length_nil, List.getElem?_cons_zero, List.getElem?_cons_succ, Nat.zero_add, Nat.add_zero, Nat.reduceLT, Nat.reduceEqDiff, Nat.add_eq, loadA_w, loadW_s, aSt_w, stOut_s, pUn_not, actOp, binA, stepOp, stHeavy, stV_mk, stO_mk, sz2, ag2, sz4, ag4, Tryz.underlying83, stepAny, wantedA_none, rCall, rLen, Tget_set, v0, v7, LN, lt_t hil, pIA_s Tryz.underlying37 sz83 hil, r1, r2, ls_f hx, ls_f hy, ge_f hx2, ge_f hy2, hxs, pIA_s Tryz.underlying81 sz4 hxN, rdx, hrow3, pIA_s Tryz.underlying81 sz4 hyN, rdy, wr_b hyb, intOp_add (inR_succ hil (show L.length ≤ maxLen by omega))] <;> rfl))
                      | (with_reducible rw [ifQ_t])
                      | (with_reducible rw [ifQ_f])
                      | (with_reducible refine ifQ_intro ?_ ?_ <;> intro hb))
                      exact r_rq_n (k := L.length - (i + 1)) (by omega) ⟨_, _, _, i + 1, b3.set yk true, true, rfl, rfl, by omega, rfl, by omega, by omega, (by first | (simp only [Tget_set, Nat.reduceEqDiff, ↓reduceIte, v0] <;> rfl) | rfl), (by first | (simp only [Tget_set, Nat.reduceEqDiff, ↓reduceIte, v1] <;> rfl) | rfl), (by first | (simp only [Tget_set, Nat.reduceEqDiff, ↓reduceIte, v5] <;> rfl) | rfl), (by first | (simp only [Tget_set, Nat.reduceEqDiff, ↓reduceIte, v6] <;> rfl) | rfl), (by first | (simp only [Tget_set, Nat.reduceEqDiff, ↓reduceIte, v7] <;> rfl) | rfl), (by first | (simp only [Tget_set, Nat.reduceEqDiff, ↓reduceIte] <;> rfl) | rfl), (by first | (simp only [Tget_set, ↓reduceIte] <;> rfl) | rfl), hev3.set (by omega) (by omega) (.inr (Nat.zero_le _)), by rw [hget_hset, if_pos rfl], hR3.mark hsl (List.mem_of_getElem? hxy) hok (.inr hbx), hP3.mark hby⟩
      · have hend : i = L.length := by omega
        have hms := hP3.meas
        repeat' (first
        | with_reducible refine r_seq ?_
        | with_reducible refine r_next ?_
        | with_reducible refine r_block ?_
        | with_reducible refine r_seq_exit ?_
        | with_reducible refine r_seq_ret ?_
        | with_reducible refine r_blk_n ?_
        | with_reducible refine r_blk_ret ?_
        | with_reducible refine r_blk_hit ?_
        | with_reducible refine r_blk_miss rfl ?_
        | with_reducible refine r_skip ?_
        | with_reducible refine r_exit ?_
        | with_reducible refine r_ret ?_
        | with_reducible refine r_rq_exit ?_
        | with_reducible refine r_rq_ret ?_
        | ((with_reducible apply r_regA); (focus (simp only [List.append_eq, List.cons_append, List.nil_append] <;> rfl)); (focus (first | exact Nat.le_of_ble_eq_true rfl | (simp only [List.length_cons, List.length_nil]; omega))))
        | ((with_reducible refine r_reg (List.toList_toArray) ?_ ?_); focus (first | exact Nat.le_of_ble_eq_true rfl | (simp only [List.length_cons, List.length_nil]; omega)))
        | ((with_reducible apply r_drawL); (focus kernel_rfl); (focus kernel_rfl); (focus (first | exact Nat.le_of_ble_eq_true rfl | (simp only [List.length_cons, List.length_nil]; omega))))
        | ((with_reducible apply r_end); focus (simp only [Nat.reduceAdd, Nat.zero_add] <;> rfl))
        | ((with_reducible (first | apply r_move | apply r_assign)); (focus (simp only [Tget_set, Nat.reduceEqDiff, ↓reduceIte, v1, v9] <;> rfl)); (focus (exact Nat.le_of_ble_eq_true rfl)))
        | ((with_reducible apply r_condT); (focus (simp only [Tget_set, ↓reduceIte] <;> rfl)))
        | ((with_reducible (first | apply r_any | apply r_cond)); focus (simp only [↓reduceIte, clsOf, clsCall, Fr.ev, put_mk, pureOp, readOp, pBin, binA, intOp_lss, List.getElem?_cons_zero, Nat.reduceLT, Nat.reduceEqDiff, binA, stepOp, stV_mk, stepAny, wantedA_none, rCall, rLen, Tget_set, LN, lt_f hil] <;> rfl))
        | (with_reducible rw [ifQ_t])
        | (with_reducible rw [ifQ_f])
        | (with_reducible refine ifQ_intro ?_ ?_ <;> intro hb))
        refine r_rq_n (k := msr m3 b3) (by omega) ⟨_, _, _, b3, m3, rfl, rfl, rfl, by omega, by omega, (by first | (simp only [Tget_set, Nat.reduceEqDiff, ↓reduceIte, v0] <;> rfl) | rfl), (by first | (simp only [Tget_set, Nat.reduceEqDiff, ↓reduceIte, v1] <;> rfl) | rfl), (by first | (simp only [Tget_set, Nat.reduceEqDiff, ↓reduceIte, v5] <;> rfl) | rfl), (by first | (simp only [Tget_set, Nat.reduceEqDiff, ↓reduceIte, v6] <;> rfl) | rfl), (by first | (simp only [Tget_set, Nat.reduceEqDiff, ↓reduceIte, v7] <;> rfl) | rfl), (by first | (simp only [Tget_set, Nat.reduceEqDiff, ↓reduceIte, v8] <;> rfl) | rfl), hev3, hrow3, hR3, fun h => ?_⟩
        have := (hP3.no h).2
        rw [hend, List.take_of_length_le (by omega)] at this
        exact this
  · have hend : s = N := by omega
    subst hend
    rw [ringsUp_all] at hI
    repeat' (first
    | with_reducible refine r_seq ?_
    | with_reducible refine r_next ?_
    | with_reducible refine r_block ?_
    | with_reducible refine r_seq_exit ?_
    | with_reducible refine r_seq_ret ?_
    | with_reducible refine r_blk_n ?_
    | with_reducible refine r_blk_ret ?_
    | with_reducible refine r_blk_hit ?_
    | with_reducible refine r_blk_miss rfl ?_
    | with_reducible refine r_skip ?_
    | with_reducible refine r_exit ?_
    | with_reducible refine r_ret ?_
    | with_reducible refine r_rq_exit ?_
    | with_reducible refine r_rq_ret ?_
    | ((with_reducible apply r_regA); (focus (simp only [List.append_eq, List.cons_append, List.nil_append] <;> rfl)); (focus (first | exact Nat.le_of_ble_eq_true rfl | (simp only [List.length_cons, List.length_nil]; omega))))
    | ((with_reducible refine r_reg (List.toList_toArray) ?_ ?_); focus (first | exact Nat.le_of_ble_eq_true rfl | (simp only [List.length_cons, List.length_nil]; omega)))
    | ((with_reducible apply r_drawL); (focus kernel_rfl); (focus kernel_rfl); (focus (first | exact Nat.le_of_ble_eq_true rfl | (simp only [List.length_cons, List.length_nil]; omega))))
    | ((with_reducible apply r_end); focus (simp only [Nat.add_assoc, Nat.reduceAdd, Nat.zero_add] <;> rfl))
    | ((with_reducible (first | apply r_move | apply r_assign)); (focus (simp only [Tget_set, Nat.reduceEqDiff, ↓reduceIte, u0, u5, u6] <;> rfl)); (focus (exact Nat.le_of_ble_eq_true rfl)))
    | ((with_reducible apply r_condT); (focus (simp only [Tget_set, ↓reduceIte] <;> rfl)))
    | ((with_reducible (first | apply r_any | apply r_cond)); focus (simp only [↓reduceIte, clsOf, Fr.ev, put_mk, pureOp, pBin, binA, intOp_lss, Nat.reduceLT, Nat.reduceEqDiff, binA, stepOp, stV_mk, stepAny, wantedA_none, Tget_set, ls_f (show ¬ (s : Int) < n by omega)] <;> rfl))
    | (with_reducible rw [ifQ_t])
    | (with_reducible rw [ifQ_f])
    | (with_reducible refine ifQ_intro ?_ ?_ <;> intro hb))
    subst hQ
    refine ret_back (by simp only [Tryz.results15, resultOf, resultsA, resultA, List.toList_toArray, Fr.ev, Tget_set, ↓reduceIte] <;> rfl) ?_
    refine ⟨_, _, rfl, hS, hS.same hw, ?_⟩
    rw [hN, hE]
    refine il_lstI hI (fun z hz => ?_) ?_ (by omega)
    · rw [← ringsUp_all] at hz; have := ringsUp_in z hz; omega
    · rw [← ringsUp_all]; have := ringsUp_len s E s; omega

end Go.Proofs.YtpgkhpfogjclhaaGreatDoor
