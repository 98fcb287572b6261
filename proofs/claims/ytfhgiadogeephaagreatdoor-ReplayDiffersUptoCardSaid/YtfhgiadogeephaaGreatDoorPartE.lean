/- A part of the proof of the law ReplayDiffers. CONDITIONS: those that each theorem names. -/
import Derived.Test.YtfhgiadogeephaaGreatDoorEngineA
import Derived.Test.YtfhgiadogeephaaGreatDoorEngineB
import Derived.Test.YtfhgiadogeephaaGreatDoorEngineC
import Derived.Test.YtfhgiadogeephaaGreatDoorEngineD
import Derived.Test.YtfhgiadogeephaaGreatDoorPartA
import Derived.Test.YtfhgiadogeephaaGreatDoorSTTypes
import Derived.Test.YtfhgiadogeephaaGreatDoorPartB
import Derived.Test.YtfhgiadogeephaaGreatDoorSTLay
import Derived.Test.YtfhgiadogeephaaGreatDoorPartC
import Derived.Test.YtfhgiadogeephaaGreatDoorPartD
import Derived.Test.YtfhgiadogeephaaGreatDoorRDLay
namespace Go.Proofs.YtfhgiadogeephaaGreatDoor
open Go Go.Ai
set_option maxRecDepth 100000

section
variable {S : FuncId → List AV → St → Out → Prop}
theorem k_hashA {h : Heap} {F : Nat} {s : Tx} (hs : s.length ≤ maxLen) : CallF.fn (KT S) 26 [.str s] ⟨h, F⟩ = some [.val (.int .u64 (hashI s)) ⟨h, F⟩] := kt_fn rfl (hashA GL h F s hs)
theorem k_hashB {h : Heap} {F : Nat} {s : Tx} (hs : s.length ≤ maxLen) : CallF.fn (KT S) 29 [.str s] ⟨h, F⟩ = some [.val (.int .u64 (hashI s)) ⟨h, F⟩] := kt_fn rfl (hashB GL h F s hs)
set_option maxHeartbeats 1000000 in
theorem bytesEq (h : Heap) (F : Nat) (a b : AV) (t u : Tx) (hA : BytP h a t) (hB : BytP h b u) : Snd Tryz.prog GL 22 [a, b] ⟨h, F⟩ [.val (.bool (dec (t = u))) ⟨h, F⟩] := by
  refine snd_val (by simp [Kin]) fun hw => ?_
  have cA := fun (h1 : Heap) (hs : SameH h h1) => rCv_B (P := Tryz.prog) (src := 22) (dst := 9) Tryz.underlying22 Tryz.underlying5 Tryz.underlying9 hA hs
  have cB := fun (h1 : Heap) (hs : SameH h h1) => rCv_B (P := Tryz.prog) (src := 22) (dst := 9) Tryz.underlying22 Tryz.underlying5 Tryz.underlying9 hB hs
  by_cases hc : t = u
  · subst hc
    have e1 : strOp .eql t t = some (.bool true) := by simp [strOp]
    refine sndQ_body (K := (KT S0)) kt_ok mixed noNum (m := 0) Tryz.func22 ?_
    generalize hQ : retQ _ _ _ _ _ _ = Q0
    refine body_go (c := Tryz.f22.body.getD .skip) (n := 10) rfl rfl (by simp only [↓reduceIte, T.setList, T.set_e, T.set_n, Nat.reduceDiv, Nat.reduceMod, Nat.reduceEqDiff, Nat.zero_add] <;> rfl) ?_
    simp only [Tryz.f22, Option.getD_some]
    repeat' (first | with_reducible (first | refine r_seq ?_ | refine r_next ?_ | refine r_block ?_ | refine r_seq_exit ?_ | refine r_seq_ret ?_ | refine r_blk_n ?_ | refine r_blk_ret ?_ | refine r_blk_hit ?_ | refine r_blk_miss rfl ?_ | refine r_skip ?_ | refine r_exit ?_ | refine r_ret ?_ | refine r_rq_exit ?_ | refine r_rq_ret ?_) | ((with_reducible apply r_regA); (focus (exact sd2)); (focus (exact sd1))) | ((with_reducible refine r_reg (List.toList_toArray) ?_ ?_); focus (exact sd1)) | ((with_reducible apply r_end); focus (exact sd4)) | ((with_reducible (first | apply r_move | apply r_assign)); (focus (exact sd3)); (focus (exact sd7))) | ((with_reducible apply r_condT); (focus (exact sd3))) | ((with_reducible (first | apply r_any | apply r_cond)); focus (simp only [↓reduceIte, clsOf, Fr.ev, ofV, ofA, ofS, put_mk, pureOp, readOp, pBin, binA, Nat.reduceLT, Nat.reduceEqDiff, Nat.reduceSub, binA, stepOp, stV_mk, T.get_n, T.set_n, T.set_e, Nat.reduceDiv, Nat.reduceMod, stepAny, wantedA_none, cA _ (SameH.refl _), cB _ (SameH.refl _), e1] <;> rfl)) | (with_reducible rw [ifQ_t]) | (with_reducible rw [ifQ_f]) | (with_reducible refine ifQ_intro ?_ ?_ <;> intro hb))
    subst hQ
    refine ret_back (by simp only [Tryz.results22, resultOf, resultsA, resultA, List.toList_toArray, Fr.ev, Tget_set, ↓reduceIte] <;> rfl) ?_
    exact ⟨_, by rw [dec_t (p := t = t) rfl], Same.base _ _ _⟩
  · have e1 : strOp .eql t u = some (.bool false) := by simp [strOp, hc]
    refine sndQ_body (K := (KT S0)) kt_ok mixed noNum (m := 0) Tryz.func22 ?_
    generalize hQ : retQ _ _ _ _ _ _ = Q0
    refine body_go (c := Tryz.f22.body.getD .skip) (n := 10) rfl rfl (by simp only [↓reduceIte, T.setList, T.set_e, T.set_n, Nat.reduceDiv, Nat.reduceMod, Nat.reduceEqDiff, Nat.zero_add] <;> rfl) ?_
    simp only [Tryz.f22, Option.getD_some]
    repeat' (first | with_reducible (first | refine r_seq ?_ | refine r_next ?_ | refine r_block ?_ | refine r_seq_exit ?_ | refine r_seq_ret ?_ | refine r_blk_n ?_ | refine r_blk_ret ?_ | refine r_blk_hit ?_ | refine r_blk_miss rfl ?_ | refine r_skip ?_ | refine r_exit ?_ | refine r_ret ?_ | refine r_rq_exit ?_ | refine r_rq_ret ?_) | ((with_reducible apply r_regA); (focus (exact sd2)); (focus (exact sd1))) | ((with_reducible refine r_reg (List.toList_toArray) ?_ ?_); focus (exact sd1)) | ((with_reducible apply r_end); focus (exact sd4)) | ((with_reducible (first | apply r_move | apply r_assign)); (focus (exact sd3)); (focus (exact sd7))) | ((with_reducible apply r_condT); (focus (exact sd3))) | ((with_reducible (first | apply r_any | apply r_cond)); focus (simp only [↓reduceIte, clsOf, Fr.ev, ofV, ofA, ofS, put_mk, pureOp, readOp, pBin, binA, Nat.reduceLT, Nat.reduceEqDiff, Nat.reduceSub, binA, stepOp, stV_mk, T.get_n, T.set_n, T.set_e, Nat.reduceDiv, Nat.reduceMod, stepAny, wantedA_none, cA _ (SameH.refl _), cB _ (SameH.refl _), e1] <;> rfl)) | (with_reducible rw [ifQ_t]) | (with_reducible rw [ifQ_f]) | (with_reducible refine ifQ_intro ?_ ?_ <;> intro hb))
    subst hQ
    refine ret_back (by simp only [Tryz.results22, resultOf, resultsA, resultA, List.toList_toArray, Fr.ev, Tget_set, ↓reduceIte] <;> rfl) ?_
    exact ⟨_, by rw [dec_f (p := t = u) hc], Same.base _ _ _⟩
theorem k_beq {h h1 : Heap} {F : Nat} {a b : AV} {t u : Tx} (hA : BytP h a t) (hB : BytP h b u) (hs : SameH h h1) : CallF.fn (KT S) 22 [a, b] ⟨h1, F⟩ = some [.val (.bool (dec (t = u))) ⟨h1, F⟩] :=
  kt_fn ((rfl : _ = spBe [a, b] ⟨h1, F⟩).trans (by simp only [spBe, bytO_same hA hs, bytO_same hB hs])) (bytesEq h1 F a b t u (hA.same hs) (hB.same hs))
theorem k_count {h h1 : Heap} {F : Nat} {a : AV} {t : Tx} {k tg : Nat} {cap : Option Nat} (hA : BytP h a t) (hg : hget h1 k = some (mkRowT tg [.int .u8 10] 1)) (hs : SameH h h1) : CallF.fn (KT S) 159 [a, .slice k 0 0 1 cap] ⟨h1, F⟩ = some [.val (.int .i64 (((Lib.countByte t 10 : Nat) : Int))) ⟨h1, F⟩] :=
  kt_fn ((rfl : _ = spCt [a, .slice k 0 0 1 cap] ⟨h1, F⟩).trans (by
    have e : rdAB (hget h1 k) 0 1 = some [.int .u8 10] := by rw [hg, rdAB_rowT, rdAB_row]; rfl
    simp only [spCt, bytO_same hA hs, e]
    rfl)) (snd_cnt noNum Tryz.func159 rfl cntC (ch := 10) (hA.same hs) hg)
theorem k_index {h h1 : Heap} {F : Nat} {a : AV} {t : Tx} {k tg : Nat} {cap : Option Nat} (hA : BytP h a t) (hg : hget h1 k = some (mkRowT tg [.int .u8 10] 1)) (hs : SameH h h1) : CallF.fn (KT S) 160 [a, .slice k 0 0 1 cap] ⟨h1, F⟩ = some [.val (.int .i64 (Lib.indexByte t 10)) ⟨h1, F⟩] :=
  kt_fn ((rfl : _ = spIx [a, .slice k 0 0 1 cap] ⟨h1, F⟩).trans (by
    have e : rdAB (hget h1 k) 0 1 = some [.int .u8 10] := by rw [hg, rdAB_rowT, rdAB_row]; rfl
    simp only [spIx, bytO_same hA hs, e]
    rfl)) (snd_cnt noNum Tryz.func160 rfl ixC (ch := 10) (hA.same hs) hg)
end

end Go.Proofs.YtfhgiadogeephaaGreatDoor

/-! Pieces of bytes in a row of one's own; builtin min; the place of a line's end. -/
namespace Go.Ai
open Go
variable {P : Program} {G : Glob}
theorem aMn_i {s : St} {k : IntKind} {a b : Int} (h : a ≤ b) : aMn s (some [.int k a, .int k b]) = some [.val (.int k a) s] := by
  have e : ltInt b a = false := by unfold ltInt; exact decide_eq_false (by omega)
  simp only [aMn, e, decide_true]
theorem aMn_j {s : St} {k : IntKind} {a b : Int} (h : b < a) : aMn s (some [.int k a, .int k b]) = some [.val (.int k b) s] := by
  have e : ltInt b a = true := by unfold ltInt; exact decide_eq_true h
  simp only [aMn, e, decide_true]
theorem aMn_m {s : St} {k : IntKind} {a b : Int} : aMn s (some [.int k a, .int k b]) = some [.val (.int k (min a b)) s] := by
  by_cases h : a ≤ b
  · rw [aMn_i h, show min a b = a by omega]
  · rw [aMn_j (by omega), show min a b = b by omega]
theorem aMn_n {s : St} {k : IntKind} {a b : Nat} : aMn s (some [.int k (a : Int), .int k (b : Int)]) = some [.val (.int k ((min a b : Nat) : Int)) s] := by
  rw [aMn_m, show min (a : Int) (b : Int) = ((min a b : Nat) : Int) by omega]
theorem ixB : ∀ {l : Tx}, 0 < l.count 10 → ∃ m : Nat, Lib.indexByte l 10 = (m : Int) ∧ l[m]? = some 10 ∧ (10 : UInt8) ∉ l.take m
  | [], h => by simp at h
  | c :: l, h => by
    by_cases hc : c = 10
    · subst hc
      exact ⟨0, by simp [Lib.indexByte], rfl, by simp⟩
    · have h1 : 0 < l.count 10 := by rwa [List.count_cons_of_ne hc] at h
      obtain ⟨m, e, h2, h3⟩ := ixB h1
      have hb : (c == 10) = false := by simpa using hc
      refine ⟨m + 1, ?_, by simpa using h2, ?_⟩
      · unfold Lib.indexByte
        rw [hb, e]
        have : ((m : Int) == -1) = false := beq_eq_false_iff_ne.2 (by omega)
        simp [this]
      · simp only [List.take_succ_cons, List.mem_cons, not_or]
        exact ⟨fun e => hc e.symm, h3⟩
theorem lnR_step {t : Tx} {o m : Nat} (h0 : (lnR (t.take o)).2 = []) (h1 : (t.drop o)[m]? = some 10) (h2 : (10 : UInt8) ∉ (t.drop o).take m) : lnR (t.take (o + (m + 1))) = ((lnR (t.take o)).1 ++ [(t.drop o).take (m + 1)], []) := by
  have e : t.take (o + (m + 1)) = t.take o ++ ((t.drop o).take m ++ [10]) := by
    rw [List.take_add, List.take_add_one, h1]; rfl
  unfold lnR at h0 ⊢
  rw [e, List.foldl_append, List.foldl_append]
  have e2 : (t.take o).foldl lnS ([], []) = (((t.take o).foldl lnS ([], [])).1, []) := Prod.ext rfl h0
  rw [e2, lnF_no _ _ _ h2, List.take_add_one, h1]
  simp [lnS]
theorem lnR_last {t : Tx} {o : Nat} (h0 : (lnR (t.take o)).2 = []) (h2 : (t.drop o).count 10 = 0) : lnR t = ((lnR (t.take o)).1, t.drop o) := by
  conv => lhs; rw [← List.take_append_drop o t]
  unfold lnR at h0 ⊢
  rw [List.foldl_append]
  have e2 : (t.take o).foldl lnS ([], []) = (((t.take o).foldl lnS ([], [])).1, []) := Prod.ext rfl h0
  rw [e2, lnF_no _ _ _ (List.count_eq_zero.1 h2)]
  simp
theorem cnt_next {l : Tx} {m : Nat} (h1 : l[m]? = some 10) (h2 : (10 : UInt8) ∉ l.take m) : (l.drop (m + 1)).count 10 = l.count 10 - 1 := by
  have e : l = l.take m ++ (10 :: l.drop (m + 1)) := by
    have hm := (List.getElem?_eq_some_iff.1 h1).1
    have h3 : l.drop m = 10 :: l.drop (m + 1) := by
      rw [List.drop_eq_getElem_cons hm]
      rw [List.getElem?_eq_getElem hm] at h1
      rw [Option.some.inj h1]
    rw [← h3, List.take_append_drop]
  conv => rhs; rw [e]
  rw [List.count_append, List.count_eq_zero.2 h2, List.count_cons_self]
  omega
theorem set_mid {α : Type} (X : List α) (x z : α) (k i : Nat) (hi : X.length = i) (hk : 0 < k) : (X ++ List.replicate k z).set i x = (X ++ [x]) ++ List.replicate (k - 1) z := by
  subst hi
  obtain ⟨k, rfl⟩ : ∃ j, k = j + 1 := ⟨k - 1, by omega⟩
  rw [List.set_append_right _ _ (Nat.le_refl _), Nat.sub_self, List.replicate_succ, List.set_cons_zero]
  simp
theorem one_flat : ∀ X : List AV, (X.map fun x => [x]).flatten = X
  | [] => rfl
  | x :: X => by
    have := one_flat X
    simp only [List.map_cons, List.flatten_cons, this]
    rfl
/-- slices in a row of one's own -/
theorem pc_row {h : Heap} {F c : Nat} {X : List AV} (hc : c ≤ 1267650600228229401496703205375) (hg : hget h (ky F c) = some (aRow X)) (hX : ∀ x ∈ X, ckOk .l x) (hm : X.length ≤ maxLen) {eo : Nat} {cap : Option Nat} : LstI F (F + 1) h [.l] (.slice (ky F c) 0 eo X.length cap) (X.map fun x => [x]) := by
  refine ⟨⟨fun l hl => ?_, by rw [List.length_map]; exact hm, .inr ⟨_, 0, eo, cap, by rw [List.length_map], fun _ => ?_⟩⟩, fun b o eo n cap e hp => ?_⟩
  · obtain ⟨x, hx, rfl⟩ := List.mem_map.1 hl
    exact ⟨x, [], rfl, hX x hx, rfl⟩
  · have e := one_flat X
    rw [hg, aRow, rdAB_row, e, if_pos (by simp), List.drop_zero, List.take_of_length_le (by simp)]
  · cases e
    exact ⟨by unfold ky; omega, ky_next F c hc⟩
theorem PcI.take {A B : Nat} {h : Heap} {a : AV} {ps : List Tx} {ty e : TypeId} {n : Nat} (hp : PcI A B h a ps) (hr : RoomA a) (hu : P.underlying ty = some (.slice e)) (hs : sizeT P e = some 1) (hn : n ≤ ps.length) (h0 : 0 < ps.length) :
    ∃ a', sliceA P ty a none (some (.int .i64 (n : Int))) none = some a' ∧ PcI A B h a' (ps.take n) ∧ RoomA a' := by
  obtain ⟨X, ⟨x1, x2⟩, x3, x4⟩ := hp
  have hl : (X.map fun x => [x]).length = ps.length := by rw [List.length_map, x3]
  rcases x1.2.2 with ⟨_, c⟩ | ⟨b, o, eo, cap, rfl, r⟩
  · rw [c] at hl; simp at hl; omega
  have r := r (by omega)
  rw [hl] at r
  have x2 := x2 b o eo _ cap rfl (by omega)
  have key : ∀ (eo' : Nat) (cap' : Option Nat), PcI A B h (.slice b (Nat.add o (Nat.mul 0 1)) eo' (Nat.sub n 0) cap') (ps.take n) := fun eo' cap' => by
    refine ⟨X.take n, ⟨⟨fun l hl' => ?_, ?_, .inr ⟨b, Nat.add o (Nat.mul 0 1), eo', cap', ?_, fun _ => ?_⟩⟩, fun b' o' eo'' n' cap'' e' hp' => ?_⟩, ?_, fun i x t h1 h2 => ?_⟩
    · obtain ⟨x, hx, rfl⟩ := List.mem_map.1 hl'
      exact x1.1 _ (List.mem_map.2 ⟨x, List.mem_of_mem_take hx, rfl⟩)
    · have := x1.2.1; rw [List.length_map] at this ⊢; rw [List.length_take]; omega
    · rw [List.length_map, List.length_take, x3, Nat.min_eq_left hn]; rfl
    · have e1 := one_flat X
      have e2 := one_flat (X.take n)
      rw [e1] at r
      have := rdAB_part r (k := 0) (j := n * 1) (by show 0 + n * 1 ≤ ps.length * 1; omega)
      rw [e2, List.length_map, List.length_take, x3, Nat.min_eq_left hn]
      show rdAB (hget h b) (o + 0 * 1) (n * 1) = _
      rw [Nat.zero_mul, this, List.drop_zero, Nat.mul_one]
    · cases e'
      exact x2
    · rw [List.length_take, List.length_take, x3]
    · rw [List.getElem?_take] at h1 h2
      split at h1
      · rename_i hi
        rw [if_pos hi] at h2
        exact x4 i x t h1 h2
      · cases h1
  cases cap with
  | none =>
    refine ⟨_, by simp only [sliceA, hu, sliceD, hs, bndH (show n ≤ (X.map fun x => [x]).length by omega), sliceOpen]; rfl, key _ _, ?_⟩
    trivial
  | some c =>
    have hc : (X.map fun x => [x]).length ≤ c := hr
    refine ⟨_, by simp only [sliceA, hu, sliceD, hs, bndH (show n ≤ c by omega), sliceShut]; rfl, key _ _, ?_⟩
    show n - 0 ≤ c - 0
    omega
end Go.Ai

namespace Go.Proofs.YtfhgiadogeephaaGreatDoor
open Go Go.Ai
set_option maxRecDepth 100000

/-- what is said of the calls that make lists -/
def SD : FuncId → List AV → St → Out → Prop
  | 109, [a, .slice k 0 0 1 _, .int .i64 1, .int .i64 n], s, o => ∀ t tg, n = -1 → BytP s.h a t → RoomA a → t.length ≤ 10000000 → hget s.h k = some (mkRowT tg [.int .u8 10] 1) → ∃ v h', o = .val v ⟨h', s.fc + 1⟩ ∧ PcI s.fc (s.fc + 1) h' v ((lnR t).1 ++ [(lnR t).2]) ∧ RoomA v ∧ Low s.fc s.h h'
  | 57, [a, .slice k 0 0 1 _], s, o => ∀ t tg, BytP s.h a t → RoomA a → t.length ≤ 10000000 → hget s.h k = some (mkRowT tg [.int .u8 10] 1) → ∃ v h', o = .val v ⟨h', s.fc + 2⟩ ∧ PcI s.fc (s.fc + 2) h' v ((lnR t).1 ++ [(lnR t).2]) ∧ RoomA v ∧ Low s.fc s.h h'
  | 23, [a], s, o => ∀ t, BytP s.h a t → RoomA a → t.length ≤ 10000000 → ∃ v h', o = .val v ⟨h', s.fc + 3⟩ ∧ PcI s.fc (s.fc + 3) h' v (lnL t) ∧ Low s.fc s.h h' ∧ SameH s.h h'
  | 25, [a], s, o => ∀ t, BytP s.h a t → RoomA a → t.length ≤ 50000 → ∃ v h', o = .val v ⟨h', s.fc + 1⟩ ∧ LstI s.fc (s.fc + 1) h' ksT v (tL (lnL t)) ∧ Low s.fc s.h h' ∧ SameH s.h h'
  | _, _, _, _ => True
theorem byBB : bytesT Tryz.prog 22 = some 24 := by kernel_rfl
theorem ixLt {l : Tx} {m : Nat} (h : l[m]? = some 10) : m < l.length := (List.getElem?_eq_some_iff.1 h).1
set_option maxHeartbeats 8000000 in
theorem genSp (h : Heap) (F k tg : Nat) (cap : Option Nat) (a : AV) (t : Tx) (hA : BytP h a t) (hR : RoomA a) (ht : t.length ≤ 10000000) (hg : hget h k = some (mkRowT tg [.int .u8 10] 1)) :
    SndQ Tryz.prog GL 109 [a, .slice k 0 0 1 cap, .int .i64 1, .int .i64 (-1)] ⟨h, F⟩ (fun o => ∃ v h', o = .val v ⟨h', F + 1⟩ ∧ PcI F (F + 1) h' v ((lnR t).1 ++ [(lnR t).2]) ∧ RoomA v ∧ Low F h h') := by
  refine sndQ_wf fun hw => ?_
  have mxl : maxLen = 9223372036854775807 := by decide
  obtain ⟨cn, hcn⟩ : ∃ cn, cn = Lib.countByte t 10 := ⟨_, rfl⟩
  have hcl : cn ≤ t.length := by rw [hcn]; exact List.count_le_length
  have kc := fun (hs : SameH h h) => k_count (S := S0) (F := F + 1) (cap := cap) hA hg hs
  rw [← hcn] at kc
  have n1 : ((-1 : Int) == 0) = false := rfl
  have n3 : (((1 : Nat) : Int) == 0) = false := rfl
  have n2 : decide ((-1 : Int) < 0) = true := rfl
  have ad1 : intOp Tryz.prog .add 3 .i64 .i64 (cn : Int) 1 = some (.int .i64 ((cn + 1 : Nat) : Int)) := intOp_add (by unfold inR; omega)
  have ad2 : intOp Tryz.prog .add 3 .i64 .i64 (t.length : Int) 1 = some (.int .i64 ((t.length + 1 : Nat) : Int)) := intOp_add (by unfold inR; omega)
  have mn := fun (s : St) => (aMn_n (s := s) (k := .i64) (a := cn + 1) (b := t.length + 1)).trans (by rw [show min (cn + 1) (t.length + 1) = cn + 1 by omega])
  have nm := fun (key : Nat) => nMS_a (P := Tryz.prog) (key := key) (n := cn + 1) sz22 byBB zr22 rfl (by omega) (by omega)
  have sb : intOp Tryz.prog .sub 3 .i64 .i64 ((cn + 1 : Nat) : Int) 1 = some (.int .i64 (cn : Int)) := by
    rw [intOp_sub (by unfold inR; omega), show ((cn + 1 : Nat) : Int) - 1 = (cn : Int) by omega]
  have lA := fun (h2 : Heap) => rLen1_B (h2 := h2) (P := Tryz.prog) (ty := 22) Tryz.underlying22 hA
  refine sndQ_body (K := (KT S0)) kt_ok mixed noNum (m := cn + 1) Tryz.func109 ?_
  generalize hQ : retQ _ _ _ _ _ _ = Q0
  refine body_go (c := Tryz.f109.body.getD .skip) (n := 70) rfl rfl (by simp only [↓reduceIte, T.setList, T.set_e, T.set_n, Nat.reduceDiv, Nat.reduceMod, Nat.reduceEqDiff, Nat.reduceSub, Nat.reduceAdd, Nat.zero_add] <;> rfl) ?_
  simp only [Tryz.f109, Option.getD_some]
  repeat' (first | with_reducible (first | refine r_seq ?_ | refine r_next ?_ | refine r_block ?_ | refine r_seq_exit ?_ | refine r_seq_ret ?_ | refine r_blk_n ?_ | refine r_blk_ret ?_ | refine r_blk_hit ?_ | refine r_blk_miss rfl ?_ | refine r_skip ?_ | refine r_exit ?_ | refine r_ret ?_ | refine r_rq_exit ?_ | refine r_rq_ret ?_) | ((with_reducible apply r_regA); (focus (exact sd2)); (focus (exact sd1))) | ((with_reducible refine r_reg (List.toList_toArray) ?_ ?_); focus (exact sd1)) | ((with_reducible apply r_end); focus (exact sd4)) | ((with_reducible (first | apply r_move | apply r_assign)); (focus (exact sd3)); (focus (exact sd7))) | ((with_reducible apply r_condT); (focus (exact sd3))) | ((with_reducible (first | apply r_any | apply r_cond)); focus (simp only [↓reduceIte, clsOf, clsCall, newBlk, allocOp, Fr.ev, evs, ofV, ofA, ofS, put_mk, upd_mk, keyOf_mk, pureOp, readOp, pBin, binA, intOp_eql, intOp_lss, List.getElem?_cons_zero, Nat.zero_add, Nat.reduceAdd, Nat.reduceLT, Nat.reduceEqDiff, Nat.reduceSub, callTo_s, heavyCall, target, List.nil_append, List.append_nil, binA, decide_true, Int.reduceLT, Int.reduceNeg, stepOp, stHeavy, stV_mk, stB_mk, stO_mk, T.get_n, T.set_n, T.set_e, Nat.reduceDiv, Nat.reduceMod, Tryz.underlying22, Tryz.underlying65, stepAny, wantedA_none, rCall, rLen, rLen1_sl, lenA, n1, n3, kc, ad1, ad2, lA, mn, aBuiltin, nm, sb, sameT] <;> rfl)) | (with_reducible rw [ifQ_t]) | (with_reducible rw [ifQ_f]) | (with_reducible refine ifQ_intro ?_ ?_ <;> intro hb))
  refine r_loop (I := fun nn fr s1 => ∃ lc tt h1 i o ai X c0, fr = ⟨F, lc, 70, tt, [], .no⟩ ∧ s1 = ⟨h1, F + 1⟩ ∧ i ≤ cn ∧ nn = cn - i ∧ lc + nn * 1000 ≤ 100000000000000000000000000 ∧ c0 < lc ∧ Low F h h1 ∧ hget h1 (ky F c0) = some (aRow (X ++ List.replicate (cn + 1 - i) .nils)) ∧ o ≤ t.length ∧ X.length = i ∧ (lnR (t.take o)).1.length = i ∧ (lnR (t.take o)).2 = [] ∧ (∀ (j : Nat) (x : AV) (u : Tx), X[j]? = some x → (lnR (t.take o)).1[j]? = some u → BytP h x u) ∧ BytP h ai (t.drop o) ∧ RoomA ai ∧ (t.drop o).count 10 = cn - i ∧ tt.get 0 = some ai ∧ tt.get 1 = some (.slice k 0 0 1 cap) ∧ tt.get 2 = some (.int .i64 1) ∧ tt.get 3 = some (.int .i64 (cn : Int)) ∧ tt.get 9 = some (.slice (ky F c0) 0 0 (cn + 1) (some (cn + 1))) ∧ tt.get 10 = some (.int .i64 (i : Int))) (n := cn) ?_ ?_ ?_
  · omega
  · refine ⟨_, _, _, 0, 0, a, [], 20, rfl, rfl, Nat.zero_le _, (Nat.sub_zero _).symm, by omega, by omega, (Low.refl F h).set (Nat.le_refl F), by rw [hget_hset, if_pos rfl]; rfl, Nat.zero_le _, rfl, rfl, rfl, fun j x u hj => by simp at hj, hA, hR, by rw [List.drop_zero, hcn]; rfl, (by first | (simp only [T.get_n, ↓reduceIte] <;> rfl) | rfl), (by first | (simp only [T.get_n, Nat.reduceEqDiff, Nat.reduceDiv, Nat.reduceMod, ↓reduceIte] <;> rfl) | rfl), (by first | (simp only [T.get_n, Nat.reduceEqDiff, Nat.reduceDiv, Nat.reduceMod, Nat.reduceSub, ↓reduceIte] <;> rfl) | rfl), (by first | (simp only [T.get_n, Nat.reduceEqDiff, Nat.reduceDiv, Nat.reduceMod, ↓reduceIte] <;> rfl) | rfl), (by first | (simp only [T.get_n, Nat.reduceEqDiff, Nat.reduceDiv, Nat.reduceMod, Nat.reduceSub, ↓reduceIte] <;> rfl) | rfl), (by first | (simp only [T.get_n, Nat.reduceEqDiff, Nat.reduceDiv, Nat.reduceMod, Nat.reduceSub, ↓reduceIte] <;> rfl) | rfl)⟩
  rintro nn fr s1 ⟨lc, tt, h1, i, o, ai, X, c0, rfl, rfl, hi, rfl, hlc, hc0, hlow, hrow, ho, hX, hln, hl2, hP, hB, hRa, hct, u0, u1, u2, u3, u9, u10⟩
  have hS := hlow.same hw
  have hg1 : hget h1 k = some (mkRowT tg [.int .u8 10] 1) := hS k _ hg (by unfold mkRowT; simp)
  have hlenr : (X ++ List.replicate (cn + 1 - i) AV.nils).length = cn + 1 := by rw [List.length_append, List.length_replicate]; omega
  by_cases hil : i < cn
  · obtain ⟨m, hm, hm1, hm2⟩ := ixB (l := t.drop o) (by omega)
    have hml := ixLt hm1
    have ki := k_index (S := S0) (F := F + 1) (cap := cap) hB hg1 hS
    rw [hm] at ki
    have hdl : (t.drop o).length = t.length - o := List.length_drop
    have am : intOp Tryz.prog .add 3 .i64 .i64 (m : Int) 1 = some (.int .i64 ((m + 1 : Nat) : Int)) := intOp_add (by unfold inR; omega)
    have am2 : intOp Tryz.prog .add 3 .i64 .i64 (m : Int) ((1 : Nat) : Int) = some (.int .i64 ((m + 1 : Nat) : Int)) := am
    obtain ⟨x, sx, hx⟩ := sl_him (P := Tryz.prog) (ty := 22) (hi := m + 1) Tryz.underlying22 sz5 hB hRa (by omega) (by omega)
    obtain ⟨ai2, sy, hy, hy2⟩ := sl_lo (P := Tryz.prog) (ty := 22) (lo := m + 1) Tryz.underlying22 sz5 hB hRa (by omega) (by omega)
    have xc := hx.cls
    simp only [AV.cells] at xc
    have w1 := fun (h3 : Heap) => wr_a (h := h3) (id := ky F c0) (xs := X ++ List.replicate (cn + 1 - i) AV.nils) (j := i) (v := x) (by omega) hx.cell
    rw [set_mid X x AV.nils (cn + 1 - i) i hX (by omega)] at w1
    repeat' (first | with_reducible (first | refine r_seq ?_ | refine r_next ?_ | refine r_block ?_ | refine r_seq_exit ?_ | refine r_seq_ret ?_ | refine r_blk_n ?_ | refine r_blk_ret ?_ | refine r_blk_hit ?_ | refine r_blk_miss rfl ?_ | refine r_skip ?_ | refine r_exit ?_ | refine r_ret ?_ | refine r_rq_exit ?_ | refine r_rq_ret ?_) | ((with_reducible apply r_regA); (focus (exact sd2)); (focus (exact sd1))) | ((with_reducible refine r_reg (List.toList_toArray) ?_ ?_); focus (exact sd1)) | ((with_reducible apply r_end); focus (exact sd4)) | ((with_reducible (first | apply r_move | apply r_assign)); (focus (simp only [Tget_set, Nat.reduceEqDiff, ↓reduceIte, u0, u1, u2, u3, u9, u10] <;> rfl)); (focus (exact sd7))) | ((with_reducible apply r_condT); (focus (exact sd3))) | ((with_reducible (first | apply r_any | apply r_cond)); focus (simp only [↓reduceIte, clsOf, clsCall, Fr.ev, evs, ofV, ofA, ofS, AV.cells, put_mk, put_none, pureOp, readOp, pBin, binA, intOp_lss, List.length_cons, List.length_nil, List.getElem?_cons_zero, Nat.zero_add, Nat.reduceLT, Nat.reduceEqDiff, aSt_w, stOut_s, callTo_s, heavyCall, target, actOp, List.nil_append, List.append_nil, binA, stepOp, stHeavy, stV_mk, stO_mk, sz22, Tryz.underlying22, stepAny, wantedA_none, rCall, rLen, rLen1_sl, lenA, Tget_set, lt_t hil, ki, ls_f (show ¬ (m : Int) < 0 by omega), am, am2, rSl, pSlice, evO, sx, sy, pIA_s Tryz.underlying65 sz22 (show i < cn + 1 by omega), Nat.zero_add, hrow, xc, w1, intOp_add (show inR ((i : Int) + 1) by unfold inR; omega)] <;> rfl)) | (with_reducible rw [ifQ_t]) | (with_reducible rw [ifQ_f]) | (with_reducible refine ifQ_intro ?_ ?_ <;> intro hb))
    have e1 := lnR_step hl2 hm1 hm2
    refine r_rq_n (k := cn - (i + 1)) (by omega) ⟨_, _, _, i + 1, o + (m + 1), ai2, X ++ [x], c0, rfl, rfl, by omega, rfl, by omega, by omega, hlow.set (Nat.le_refl F), ?_, by omega, by simp [hX], by rw [e1]; simp [hln], by rw [e1], ?_, by rw [← List.drop_drop]; exact hy, hy2, ?_, (by first | (simp only [Tget_set, Nat.reduceEqDiff, ↓reduceIte] <;> rfl) | rfl), (by first | (simp only [Tget_set, Nat.reduceEqDiff, ↓reduceIte, u1] <;> rfl) | rfl), (by first | (simp only [Tget_set, Nat.reduceEqDiff, ↓reduceIte, u2] <;> rfl) | rfl), (by first | (simp only [Tget_set, Nat.reduceEqDiff, ↓reduceIte, u3] <;> rfl) | rfl), (by first | (simp only [Tget_set, Nat.reduceEqDiff, ↓reduceIte, u9] <;> rfl) | rfl), (by first | (simp only [Tget_set, ↓reduceIte] <;> rfl) | rfl)⟩
    · rw [hget_hset, if_pos rfl, show cn + 1 - (i + 1) = cn + 1 - i - 1 by omega]
    · rw [e1]
      intro j x' u hj hu
      by_cases hji : j < i
      · rw [List.getElem?_append_left (by omega)] at hj hu
        exact hP j x' u hj hu
      · rw [List.getElem?_append_right (by omega)] at hj hu
        have hjj := (List.getElem?_eq_some_iff.1 hj).1
        simp at hjj
        rw [show j - X.length = 0 by omega] at hj
        rw [show j - (lnR (t.take o)).1.length = 0 by omega] at hu
        cases hj; cases hu
        exact hx
    · rw [← List.drop_drop, cnt_next hm1 hm2]; omega
  · have hend : i = cn := by omega
    have e1 := lnR_last hl2 (by omega)
    have xc := hB.cls
    simp only [AV.cells] at xc
    have w1 := fun (h3 : Heap) => wr_a (h := h3) (id := ky F c0) (xs := X ++ List.replicate (cn + 1 - i) AV.nils) (j := i) (v := ai) (by omega) hB.cell
    rw [set_mid X ai AV.nils (cn + 1 - i) i hX (by omega), show cn + 1 - i - 1 = 0 by omega, List.replicate_zero, List.append_nil] at w1
    have ai1 : intOp Tryz.prog .add 3 .i64 .i64 (i : Int) 1 = some (.int .i64 ((i + 1 : Nat) : Int)) := intOp_add (by unfold inR; omega)
    have sl : sliceA Tryz.prog 65 (.slice (ky F c0) 0 0 (cn + 1) (some (cn + 1))) none (some (.int .i64 ((i + 1 : Nat) : Int))) none = some (.slice (ky F c0) 0 0 (X ++ [ai]).length (some (cn + 1))) := by
      simp only [sliceA, Tryz.underlying65, sliceD, sz22, bndH (show i + 1 ≤ cn + 1 by omega), sliceShut]
      rw [List.length_append, hX]
      rfl
    repeat' (first | with_reducible (first | refine r_seq ?_ | refine r_next ?_ | refine r_block ?_ | refine r_seq_exit ?_ | refine r_seq_ret ?_ | refine r_blk_n ?_ | refine r_blk_ret ?_ | refine r_blk_hit ?_ | refine r_blk_miss rfl ?_ | refine r_skip ?_ | refine r_exit ?_ | refine r_ret ?_ | refine r_rq_exit ?_ | refine r_rq_ret ?_) | ((with_reducible apply r_regA); (focus (exact sd2)); (focus (exact sd1))) | ((with_reducible refine r_reg (List.toList_toArray) ?_ ?_); focus (exact sd1)) | ((with_reducible apply r_end); focus (exact sd4)) | ((with_reducible (first | apply r_move | apply r_assign)); (focus (simp only [Tget_set, Nat.reduceEqDiff, ↓reduceIte, u0, u3, u9, u10] <;> rfl)); (focus (exact sd7))) | ((with_reducible apply r_condT); (focus (exact sd3))) | ((with_reducible (first | apply r_any | apply r_cond)); focus (simp only [↓reduceIte, clsOf, Fr.ev, ofV, ofA, ofS, AV.cells, put_mk, put_none, pureOp, readOp, pBin, binA, intOp_lss, List.length_cons, List.length_nil, Nat.zero_add, Nat.reduceLT, Nat.reduceEqDiff, aSt_w, stOut_s, actOp, binA, stepOp, stHeavy, stV_mk, stO_mk, sz22, stepAny, wantedA_none, Tget_set, lt_f hil, ai1, rSl, pSlice, evO, sl, pIA_s Tryz.underlying65 sz22 (show i < cn + 1 by omega), Nat.zero_add, hrow, xc, w1] <;> rfl)) | (with_reducible rw [ifQ_t]) | (with_reducible rw [ifQ_f]) | (with_reducible refine ifQ_intro ?_ ?_ <;> intro hb))
    subst hQ
    refine ret_back (by simp only [Tryz.results109, resultOf, resultsA, resultA, List.toList_toArray, Fr.ev, Tget_set, ↓reduceIte] <;> rfl) ?_
    rw [e1]
    dsimp only
    refine ⟨_, _, rfl, ⟨X ++ [ai], ?_, by simp [hX, hln], ?_⟩, by show (X ++ [ai]).length ≤ cn + 1; simp [hX]; omega, hlow.set (Nat.le_refl F)⟩
    · refine pc_row (by omega) (by rw [hget_hset, if_pos rfl]) (fun x hx => ?_) (by simp [hX]; omega)
      rcases List.mem_append.1 hx with hx | hx
      · obtain ⟨j, hj⟩ := List.getElem?_of_mem hx
        have hjl := (List.getElem?_eq_some_iff.1 hj).1
        exact (hP j x _ hj (List.getElem?_eq_getElem (show j < (lnR (t.take o)).1.length by omega))).ckl
      · obtain rfl := List.mem_singleton.1 hx
        exact hB.ckl
    · intro j x u hj hu
      have hlow2 := hlow.set (c := c0) (b := aRow (X ++ [ai])) (Nat.le_refl F)
      have hS2 := hlow2.same hw
      by_cases hji : j < i
      · rw [List.getElem?_append_left (by omega)] at hj hu
        exact (hP j x u hj hu).same hS2
      · rw [List.getElem?_append_right (by omega)] at hj hu
        have hjj := (List.getElem?_eq_some_iff.1 hj).1
        simp at hjj
        rw [show j - X.length = 0 by omega] at hj
        rw [show j - (lnR (t.take o)).1.length = 0 by omega] at hu
        cases hj; cases hu
        exact hB.same hS2

end Go.Proofs.YtfhgiadogeephaaGreatDoor

namespace Go.Proofs.YtfhgiadogeephaaGreatDoor
open Go Go.Ai
set_option maxRecDepth 100000

theorem genSpQ {h : Heap} {F k tg : Nat} {cap : Option Nat} {a : AV} {t : Tx} (hA : BytP h a t) (hR : RoomA a) (ht : t.length ≤ 10000000) (hg : hget h k = some (mkRowT tg [.int .u8 10] 1)) :
    SndQ Tryz.prog GL 109 [a, .slice k 0 0 1 cap, .int .i64 ((1 : Nat) : Int), .int .i64 (-1)] ⟨h, F⟩ (SD 109 [a, .slice k 0 0 1 cap, .int .i64 ((1 : Nat) : Int), .int .i64 (-1)] ⟨h, F⟩) :=
  (genSp h F k tg cap a t hA hR ht hg).mono fun o ho => fun t' tg' _ hA' _ _ _ => by
    obtain rfl := hA.uniq hA'
    exact ho
set_option maxHeartbeats 2000000 in
theorem splA (h : Heap) (F k tg : Nat) (cap : Option Nat) (a : AV) (t : Tx) (hA : BytP h a t) (hR : RoomA a) (ht : t.length ≤ 10000000) (hg : hget h k = some (mkRowT tg [.int .u8 10] 1)) :
    SndQ Tryz.prog GL 57 [a, .slice k 0 0 1 cap] ⟨h, F⟩ (fun o => ∃ v h', o = .val v ⟨h', F + 2⟩ ∧ PcI F (F + 2) h' v ((lnR t).1 ++ [(lnR t).2]) ∧ RoomA v ∧ Low F h h') := by
  refine sndQ_wf fun hw => ?_
  refine sndQ_body (K := (KT SD)) kt_ok mixed noNum (m := 0) Tryz.func57 ?_
  generalize hQ : retQ _ _ _ _ _ _ = Q0
  refine body_go (c := Tryz.f57.body.getD .skip) (n := 10) rfl rfl (by simp only [↓reduceIte, T.setList, T.set_e, T.set_n, Nat.reduceDiv, Nat.reduceMod, Nat.reduceEqDiff, Nat.zero_add] <;> rfl) ?_
  simp only [Tryz.f57, Option.getD_some]
  repeat' (first | with_reducible (first | refine r_seq ?_ | refine r_next ?_ | refine r_block ?_ | refine r_seq_exit ?_ | refine r_seq_ret ?_ | refine r_blk_n ?_ | refine r_blk_ret ?_ | refine r_blk_hit ?_ | refine r_blk_miss rfl ?_ | refine r_skip ?_ | refine r_exit ?_ | refine r_ret ?_ | refine r_rq_exit ?_ | refine r_rq_ret ?_) | ((with_reducible apply r_regA); (focus (exact sd2)); (focus (exact sd1))) | ((with_reducible refine r_reg (List.toList_toArray) ?_ ?_); focus (exact sd1)) | ((with_reducible apply r_end); focus (exact sd4)) | ((with_reducible (first | apply r_move | apply r_assign)); (focus (exact sd3)); (focus (exact sd7))) | ((with_reducible apply r_condT); (focus (exact sd3))) | ((with_reducible (first | apply r_any | apply r_cond)); focus (simp only [↓reduceIte, clsOf, clsCall, Fr.ev, evs, ofV, ofA, ofS, put_mk, pureOp, readOp, List.getElem?_cons_zero, Nat.reduceLT, Nat.reduceEqDiff, Nat.reduceSub, callTo_s, heavyCall, target, List.nil_append, List.append_nil, Int.reduceNeg, stepOp, stHeavy, stV_mk, T.get_n, T.set_n, T.set_e, Nat.reduceDiv, Nat.reduceMod, Tryz.underlying22, stepAny, wantedA_none, rCall, rLen, rLen1_sl, lenA] <;> rfl)) | (with_reducible rw [ifQ_t]) | (with_reducible rw [ifQ_f]) | (with_reducible refine ifQ_intro ?_ ?_ <;> intro hb))
  refine r_callC (S := SD) (f := 109) (by first | rfl | (simp only [wantedA_none, Tget_set])) (by simp only [callOuts, callTo_s, target, evs, Fr.ev, T.get_n, Nat.reduceEqDiff, Nat.reduceDiv, Nat.reduceMod, Nat.reduceSub, ↓reduceIte, List.nil_append, List.append_nil, ofV, ofA, ofS]; exact kc_miss rfl) ?_ ?_
  · exact genSpQ hA hR ht hg
  intro o ho
  obtain ⟨v, h', rfl, hp, hv, hl⟩ := ho t tg rfl hA hR ht hg
  refine ⟨_, by simp only [put_mk, Nat.reduceLT, ↓reduceIte] <;> rfl, ?_⟩
  repeat' (first | with_reducible (first | refine r_seq ?_ | refine r_next ?_ | refine r_block ?_ | refine r_seq_exit ?_ | refine r_seq_ret ?_ | refine r_blk_n ?_ | refine r_blk_ret ?_ | refine r_blk_hit ?_ | refine r_blk_miss rfl ?_ | refine r_skip ?_ | refine r_exit ?_ | refine r_ret ?_ | refine r_rq_exit ?_ | refine r_rq_ret ?_) | ((with_reducible apply r_regA); (focus (exact sd2)); (focus (exact sd1))) | ((with_reducible refine r_reg (List.toList_toArray) ?_ ?_); focus (exact sd1)) | ((with_reducible apply r_end); focus (exact sd4)) | ((with_reducible (first | apply r_move | apply r_assign)); (focus (exact sd3)); (focus (exact sd7))) | ((with_reducible apply r_condT); (focus (exact sd3))) | (with_reducible rw [ifQ_t]) | (with_reducible rw [ifQ_f]) | (with_reducible refine ifQ_intro ?_ ?_ <;> intro hb))
  subst hQ
  refine ret_back (by simp only [Tryz.results57, resultOf, resultsA, resultA, List.toList_toArray, Fr.ev, Tget_set, ↓reduceIte] <;> rfl) ?_
  exact ⟨_, _, rfl, hp.wide (by show F ≤ F + 1; omega) (by show F + 1 + 1 ≤ F + 2; omega), hv, hl.down (by show F ≤ F + 1; omega)⟩
theorem splAQ {h : Heap} {F k tg : Nat} {cap : Option Nat} {a : AV} {t : Tx} (hA : BytP h a t) (hR : RoomA a) (ht : t.length ≤ 10000000) (hg : hget h k = some (mkRowT tg [.int .u8 10] 1)) :
    SndQ Tryz.prog GL 57 [a, .slice k 0 0 1 cap] ⟨h, F⟩ (SD 57 [a, .slice k 0 0 1 cap] ⟨h, F⟩) :=
  (splA h F k tg cap a t hA hR ht hg).mono fun o ho => fun t' tg' hA' _ _ _ => by
    obtain rfl := hA.uniq hA'
    exact ho
set_option maxHeartbeats 4000000 in
theorem linesA (h : Heap) (F : Nat) (a : AV) (t : Tx) (hA : BytP h a t) (hR : RoomA a) (ht : t.length ≤ 10000000) :
    SndQ Tryz.prog GL 23 [a] ⟨h, F⟩ (fun o => ∃ v h', o = .val v ⟨h', F + 3⟩ ∧ PcI F (F + 3) h' v (lnL t) ∧ Low F h h' ∧ SameH h h') := by
  refine sndQ_wf fun hw => ?_
  have mxl : maxLen = 9223372036854775807 := by decide
  have nb := fun (key : Nat) (c : Int) => nBS_by (P := Tryz.prog) (key := key) (c := c) sz5 zr5
  refine sndQ_body (K := (KT SD)) kt_ok mixed noNum (m := 0) Tryz.func23 ?_
  generalize hQ : retQ _ _ _ _ _ _ = Q0
  refine body_go (c := Tryz.f23.body.getD .skip) (n := 21) rfl rfl (by simp only [↓reduceIte, T.setList, T.set_e] <;> rfl) ?_
  simp only [Tryz.f23, Option.getD_some]
  repeat' (first | with_reducible (first | refine r_seq ?_ | refine r_next ?_ | refine r_block ?_ | refine r_seq_exit ?_ | refine r_seq_ret ?_ | refine r_blk_n ?_ | refine r_blk_ret ?_ | refine r_blk_hit ?_ | refine r_blk_miss rfl ?_ | refine r_skip ?_ | refine r_exit ?_ | refine r_ret ?_ | refine r_rq_exit ?_ | refine r_rq_ret ?_) | ((with_reducible apply r_regA); (focus (exact sd2)); (focus (exact sd1))) | ((with_reducible refine r_reg (List.toList_toArray) ?_ ?_); focus (exact sd1)) | ((with_reducible apply r_end); focus (exact sd4)) | ((with_reducible (first | apply r_move | apply r_assign)); (focus (exact sd3)); (focus (exact sd7))) | ((with_reducible apply r_condT); (focus (exact sd3))) | ((with_reducible (first | apply r_any | apply r_cond)); focus (simp only [↓reduceIte, clsOf, clsCall, newBlk, allocOp, Fr.ev, evs, evParts, ofV, ofA, ofS, put_mk, upd_mk, keyOf_mk, pureOp, Nat.zero_add, Nat.reduceAdd, Nat.reduceLT, Nat.reduceEqDiff, Nat.reduceSub, callTo_s, heavyCall, target, List.nil_append, List.append_nil, stepOp, stHeavy, stV_mk, stB_mk, T.get_n, T.set_n, T.set_e, Nat.reduceDiv, Nat.reduceMod, Tryz.underlying22, stepAny, wantedA_none, nb, tA5] <;> rfl)) | (with_reducible rw [ifQ_t]) | (with_reducible rw [ifQ_f]) | (with_reducible refine ifQ_intro ?_ ?_ <;> intro hb))
  have lowA : Low F h (hset h (ky F 2) (mkRowT 6 [.int .u8 10] 1)) := (Low.refl F h).set (Nat.le_refl F)
  have SAm := lowA.same hw
  refine r_callC (S := SD) (f := 57) (by first | rfl | (simp only [wantedA_none, Tget_set])) (by simp only [callOuts, callTo_s, target, evs, Fr.ev, T.get_n, Nat.reduceEqDiff, Nat.reduceDiv, Nat.reduceMod, Nat.reduceSub, ↓reduceIte, List.nil_append, List.append_nil]; exact kc_miss rfl) ?_ ?_
  · exact splAQ (tg := 6) (hA.same SAm) hR ht (by rw [hget_hset, if_pos rfl])
  intro o ho
  obtain ⟨v, h2, rfl, hp, hv, hl⟩ := ho t 6 (hA.same SAm) hR ht (by show hget (hset _ _ _) _ = _; rw [hget_hset, if_pos rfl])
  refine ⟨_, by simp only [put_mk, Nat.reduceLT, ↓reduceIte] <;> rfl, ?_⟩
  have lowB : Low F h h2 := lowA.trans (hl.down (by show F ≤ F + 1; omega))
  have hln := lnR_len t
  have lP := fun (h3 : Heap) => rLen1_PcI (h2 := h3) (P := Tryz.prog) (t := 65) Tryz.underlying65 hp
  rw [show ((lnR t).1 ++ [(lnR t).2]).length = (lnR t).1.length + 1 by simp] at lP
  have sb : intOp Tryz.prog .sub 3 .i64 .i64 (((lnR t).1.length + 1 : Nat) : Int) 1 = some (.int .i64 ((lnR t).1.length : Int)) := by
    rw [intOp_sub (by unfold inR; omega), show (((lnR t).1.length + 1 : Nat) : Int) - 1 = ((lnR t).1.length : Int) by omega]
  obtain ⟨b, o, eo, cap, x, rfl, hb1, hb2, hr, hx⟩ := hp.at (i := (lnR t).1.length) (t := (lnR t).2) (by simp)
  have hlen : ((lnR t).1 ++ [(lnR t).2]).length = (lnR t).1.length + 1 := by simp
  rw [hlen] at hv hp lP ⊢
  have lX := fun (h3 : Heap) => rLen1_B (h2 := h3) (P := Tryz.prog) (ty := 22) Tryz.underlying22 hx
  by_cases he : (lnR t).2 = []
  · have e0 : (((lnR t).2.length : Int) == 0) = true := by rw [he]; rfl
    obtain ⟨v2, sl, hp2, _⟩ := hp.take (P := Tryz.prog) (ty := 65) (n := (lnR t).1.length) hv Tryz.underlying65 sz22 (by simp) (by simp)
    repeat' (first | with_reducible (first | refine r_seq ?_ | refine r_next ?_ | refine r_block ?_ | refine r_seq_exit ?_ | refine r_seq_ret ?_ | refine r_blk_n ?_ | refine r_blk_ret ?_ | refine r_blk_hit ?_ | refine r_blk_miss rfl ?_ | refine r_skip ?_ | refine r_exit ?_ | refine r_ret ?_ | refine r_rq_exit ?_ | refine r_rq_ret ?_) | ((with_reducible apply r_regA); (focus (exact sd2)); (focus (exact sd1))) | ((with_reducible refine r_reg (List.toList_toArray) ?_ ?_); focus (exact sd1)) | ((with_reducible apply r_end); focus (exact sd4)) | ((with_reducible (first | apply r_move | apply r_assign)); (focus (exact sd3)); (focus (exact sd7))) | ((with_reducible apply r_condT); (focus (exact sd3))) | ((with_reducible (first | apply r_any | apply r_cond)); focus (simp only [↓reduceIte, clsOf, clsCall, Fr.ev, ofV, ofA, ofS, put_mk, pureOp, readOp, rLd, oneCell_one, pBin, binA, intOp_eql, List.getElem?_cons_zero, Nat.reduceLT, Nat.reduceEqDiff, Nat.reduceSub, loadA_w, loadW_s, binA, stepOp, stV_mk, T.get_n, T.set_n, T.set_e, Nat.reduceDiv, Nat.reduceMod, sz22, ag22, stepAny, wantedA_none, rCall, rLen, lP, sb, pIA_s Tryz.underlying65 sz22 (show (lnR t).1.length < (lnR t).1.length + 1 by omega), hr, lX, e0, rSl, pSlice, evO, sl] <;> rfl)) | (with_reducible rw [ifQ_t]) | (with_reducible rw [ifQ_f]) | (with_reducible refine ifQ_intro ?_ ?_ <;> intro hb))
    subst hQ
    refine ret_back (by simp only [Tryz.results23, resultOf, resultsA, resultA, List.toList_toArray, Fr.ev, Tget_set, ↓reduceIte] <;> rfl) ?_
    rw [List.take_left'] at hp2
    rw [show lnL t = (lnR t).1 by unfold lnL; rw [if_pos he]]
    · exact ⟨_, _, rfl, hp2.wide (by show F ≤ F + 1; omega) (by show F + 1 + 2 ≤ F + 3; omega), lowB, lowB.same hw⟩
    · rfl
  · have e0 : (((lnR t).2.length : Int) == 0) = false := beq_eq_false_iff_ne.2 (by have : (lnR t).2.length ≠ 0 := fun e => he (List.length_eq_zero_iff.1 e); omega)
    repeat' (first | with_reducible (first | refine r_seq ?_ | refine r_next ?_ | refine r_block ?_ | refine r_seq_exit ?_ | refine r_seq_ret ?_ | refine r_blk_n ?_ | refine r_blk_ret ?_ | refine r_blk_hit ?_ | refine r_blk_miss rfl ?_ | refine r_skip ?_ | refine r_exit ?_ | refine r_ret ?_ | refine r_rq_exit ?_ | refine r_rq_ret ?_) | ((with_reducible apply r_regA); (focus (exact sd2)); (focus (exact sd1))) | ((with_reducible refine r_reg (List.toList_toArray) ?_ ?_); focus (exact sd1)) | ((with_reducible apply r_end); focus (exact sd4)) | ((with_reducible (first | apply r_move | apply r_assign)); (focus (exact sd3)); (focus (exact sd7))) | ((with_reducible apply r_condT); (focus (exact sd3))) | ((with_reducible (first | apply r_any | apply r_cond)); focus (simp only [↓reduceIte, clsOf, clsCall, Fr.ev, ofV, ofA, ofS, put_mk, pureOp, readOp, rLd, oneCell_one, pBin, binA, intOp_eql, List.getElem?_cons_zero, Nat.reduceLT, Nat.reduceEqDiff, Nat.reduceSub, loadA_w, loadW_s, binA, stepOp, stV_mk, T.get_n, T.set_n, T.set_e, Nat.reduceDiv, Nat.reduceMod, sz22, ag22, stepAny, wantedA_none, rCall, rLen, lP, sb, pIA_s Tryz.underlying65 sz22 (show (lnR t).1.length < (lnR t).1.length + 1 by omega), hr, lX, e0] <;> rfl)) | (with_reducible rw [ifQ_t]) | (with_reducible rw [ifQ_f]) | (with_reducible refine ifQ_intro ?_ ?_ <;> intro hb))
    subst hQ
    refine ret_back (by simp only [Tryz.results23, resultOf, resultsA, resultA, List.toList_toArray, Fr.ev, Tget_set, ↓reduceIte] <;> rfl) ?_
    rw [show lnL t = (lnR t).1 ++ [(lnR t).2] by unfold lnL; rw [if_neg he]]
    exact ⟨_, _, rfl, hp.wide (by show F ≤ F + 1; omega) (by show F + 1 + 2 ≤ F + 3; omega), lowB, lowB.same hw⟩
theorem linesAQ {h : Heap} {F : Nat} {a : AV} {t : Tx} (hA : BytP h a t) (hR : RoomA a) (ht : t.length ≤ 10000000) : SndQ Tryz.prog GL 23 [a] ⟨h, F⟩ (SD 23 [a] ⟨h, F⟩) :=
  (linesA h F a t hA hR ht).mono fun o ho => fun t' hA' _ _ => by
    obtain rfl := hA.uniq hA'
    exact ho

end Go.Proofs.YtfhgiadogeephaaGreatDoor

/-! A list that is nil or grown in a block of one's own. -/
namespace Go.Ai
open Go
variable {P : Program}
def GrL (h : Heap) (F lc es : Nat) (l : AV) (L : List (List AV)) : Prop := (l = .nils ∧ L = []) ∨ (0 < L.length ∧ ∃ c, c < lc ∧ OwnL h F c es l L)
section
variable {h h' : Heap} {F lc es : Nat} {l : AV} {L N : List (List AV)}
theorem GrL.nil : GrL h F lc es .nils [] := .inl ⟨rfl, rfl⟩
theorem GrL.up {lc' : Nat} (g : GrL h F lc es l L) (hl : lc ≤ lc') : GrL h F lc' es l L := g.imp id fun ⟨a, c, b, d⟩ => ⟨a, c, by omega, d⟩
theorem GrL.move (g : GrL h F lc es l L) (he : ∀ c, c < lc → hget h' (ky F c) = hget h (ky F c)) : GrL h' F lc es l L := g.imp id fun ⟨a, c, b, d⟩ => ⟨a, c, b, d.move (he c b)⟩
theorem GrL.set {k : Nat} {b : AB} (g : GrL h F lc es l L) (hk : lc ≤ k) : GrL (hset h (ky F k) b) F lc es l L := g.move fun c hc => by rw [hget_hset, if_neg (by rw [ky_inj]; omega)]
theorem GrL.lst {ks : List CK} (g : GrL h F lc ks.length l L) (hok : ∀ x ∈ L, cksOk ks x) (hm : L.length ≤ maxLen) : LstP h ks l L := by
  rcases g with ⟨rfl, rfl⟩ | ⟨_, c, _, o⟩
  · exact ⟨by simp, by simp, .inl ⟨.inl rfl, rfl⟩⟩
  · exact o.lst hok hm
theorem GrL.lstI {ks : List CK} (g : GrL h F lc ks.length l L) (hok : ∀ x ∈ L, cksOk ks x) (hm : L.length ≤ maxLen) (hc : lc ≤ 1267650600228229401496703205375) : LstI F (F + 1) h ks l L := by
  refine ⟨g.lst hok hm, fun b o eo n cap e hp => ?_⟩
  rcases g with ⟨rfl, rfl⟩ | ⟨_, c, hcl, pre, _, _, rfl | ⟨eo', rfl⟩⟩
  · cases e
  · cases e; exact ⟨by unfold ky; omega, ky_next F c (by omega)⟩
  · cases e; exact ⟨by unfold ky; omega, ky_next F c (by omega)⟩
theorem GrL.app {t t2 e e2 by' k f : Nat} {b : AV} (g : GrL h F lc es l L) (hu : P.underlying t = some (.slice e)) (h2 : P.underlying t2 = some (.slice e2)) (hs : sizeT P e = some es) (hb : bytesT P e = some by') (hz : zeroOk P e es by' = true)
    (hsrc : srcCells h es b = some (N.length, N.flatten)) (hp : 0 < N.length) (hes : 0 < es) (hN : ∀ x ∈ N, x.length = es) (hc : allCell N.flatten = true) (hn : L.length + N.length ≤ 100000) (hby : by' ≤ 1000) (hk : lc ≤ k) (htg : tagA P e = 0 := by kernel_rfl) :
    ∃ h3, appendA P t t2 (ky F k) ⟨h, f⟩ l b = some (.slice (ky F k) 0 0 (L ++ N).length none, ⟨h3, f⟩) ∧ GrL h3 F (k + 1) es (.slice (ky F k) 0 0 (L ++ N).length none) (L ++ N) ∧ ∀ h0, Low F h0 h → Low F h0 h3 := by
  rcases g with ⟨rfl, rfl⟩ | ⟨hL, c, hcl, o⟩
  · refine ⟨_, (app_nil (s := ⟨h, f⟩) hu h2 hs hb hz hsrc hp (by simpa using hn) hby htg).trans (by rw [St.upd_eq]; rfl), .inr ⟨by simpa using hp, k, by omega, ?_⟩, fun h0 hl => hl.set (Nat.le_refl F)⟩
    exact OwnL.new (by simpa using hN) (by rw [hget_hset, if_pos rfl]; rfl) (.inl rfl)
  · refine ⟨_, app_own (s := ⟨h, f⟩) hu h2 hs hb hz o hsrc hp hes hN hc (by omega) hby htg, .inr ⟨by rw [List.length_append]; omega, k, by omega, ?_⟩, fun h0 hl => ?_⟩
    · refine OwnL.new (fun x hx => ?_) (by rw [hget_hset, if_pos rfl]) (.inl rfl)
      rcases List.mem_append.1 hx with hx | hx
      · obtain ⟨pre, _, h3, _⟩ := o
        exact h3 x (List.mem_append_right _ hx)
      · exact hN x hx
    · refine Low.set ?_ (Nat.le_refl F)
      obtain ⟨pre, _, _, rfl | ⟨eo, rfl⟩⟩ := o
      · exact hl.set (Nat.le_refl F)
      · exact hl
end
end Go.Ai

namespace Go.Proofs.YtfhgiadogeephaaGreatDoor
open Go Go.Ai
set_option maxRecDepth 100000

theorem seg_step {t : Tx} {f i : Nat} {c : UInt8} (hf : f ≤ i) (hc : t[i]? = some c) : (t.drop f).take (i + 1 - f) = (t.drop f).take (i - f) ++ [c] := by
  rw [show i + 1 - f = (i - f) + 1 by omega, List.take_add_one, List.getElem?_drop, show f + (i - f) = i by omega, hc]
  rfl
set_option maxHeartbeats 8000000 in
theorem linesB (h : Heap) (F : Nat) (a : AV) (t : Tx) (hA : BytP h a t) (hR : RoomA a) (ht : t.length ≤ 50000) :
    SndQ Tryz.prog GL 25 [a] ⟨h, F⟩ (fun o => ∃ v h', o = .val v ⟨h', F + 1⟩ ∧ LstI F (F + 1) h' ksT v (tL (lnL t)) ∧ Low F h h' ∧ SameH h h') := by
  refine sndQ_wf fun hw => ?_
  have mxl : maxLen = 9223372036854775807 := by decide
  have lA := fun (h2 : Heap) => rLen1_B (h2 := h2) (P := Tryz.prog) (ty := 22) Tryz.underlying22 hA
  have tok : ∀ ss : List Tx, (∀ s ∈ ss, s.length ≤ maxLen) → ∀ x ∈ tL ss, cksOk ksT x := fun ss hs x hx => by
    obtain ⟨s, h1, rfl⟩ := List.mem_map.1 hx
    exact ⟨_, _, rfl, hs s h1, rfl⟩
  have short : ∀ (s : Tx), s ∈ lnL t → s.length ≤ maxLen := fun s hs => by
    have h1 : s.length ≤ (lnL t).flatten.length := (List.sublist_flatten_of_mem hs).length_le
    rw [lnL_join] at h1
    omega
  refine sndQ_body (K := (KT S0)) kt_ok mixed noNum (m := t.length + 1) Tryz.func25 ?_
  generalize hQ : retQ _ _ _ _ _ _ = Q0
  refine body_go (c := Tryz.f25.body.getD .skip) (n := 40) rfl rfl (by simp only [↓reduceIte, T.setList, T.set_e] <;> rfl) ?_
  simp only [Tryz.f25, Option.getD_some]
  repeat' (first | with_reducible (first | refine r_seq ?_ | refine r_next ?_ | refine r_block ?_ | refine r_seq_exit ?_ | refine r_seq_ret ?_ | refine r_blk_n ?_ | refine r_blk_ret ?_ | refine r_blk_hit ?_ | refine r_blk_miss rfl ?_ | refine r_skip ?_ | refine r_exit ?_ | refine r_ret ?_ | refine r_rq_exit ?_ | refine r_rq_ret ?_) | ((with_reducible apply r_regA); (focus (exact sd2)); (focus (exact sd1))) | ((with_reducible refine r_reg (List.toList_toArray) ?_ ?_); focus (exact sd1)) | ((with_reducible apply r_end); focus (exact sd4)) | ((with_reducible (first | apply r_move | apply r_assign)); (focus (exact sd3)); (focus (exact sd7))) | ((with_reducible apply r_condT); (focus (exact sd3))) | ((with_reducible (first | apply r_any | apply r_cond)); focus (simp only [↓reduceIte, clsOf, Fr.ev, ofV, ofA, ofS, put_mk, pureOp, Nat.reduceLT, Nat.reduceEqDiff, Nat.reduceSub, stepOp, stV_mk, T.set_n, T.set_e, Nat.reduceDiv, Nat.reduceMod, stepAny, wantedA_none] <;> rfl)) | (with_reducible rw [ifQ_t]) | (with_reducible rw [ifQ_f]) | (with_reducible refine ifQ_intro ?_ ?_ <;> intro hb))
  refine r_loop (I := fun nn fr s1 => ∃ lc tt h1 i f l, fr = ⟨F, lc, 40, tt, [], .no⟩ ∧ s1 = ⟨h1, F + 1⟩ ∧ i ≤ t.length ∧ nn = t.length - i ∧ lc + nn * 1000 ≤ 100000000000000000000000000 ∧ Low F h h1 ∧ f ≤ i ∧ (lnR (t.take i)).2 = (t.drop f).take (i - f) ∧ GrL h1 F lc 1 l (tL (lnR (t.take i)).1) ∧ tt.get 0 = some a ∧ tt.get 3 = some l ∧ tt.get 4 = some (.int .i64 (f : Int)) ∧ tt.get 5 = some (.int .i64 (i : Int))) (n := t.length) ?_ ?_ ?_
  · omega
  · exact ⟨_, _, _, 0, 0, _, rfl, rfl, Nat.zero_le _, (Nat.sub_zero _).symm, by omega, Low.refl F h, Nat.le_refl _, rfl, GrL.nil, (by first | (simp only [T.get_n, ↓reduceIte] <;> rfl) | rfl), (by first | (simp only [T.get_n, Nat.reduceEqDiff, Nat.reduceDiv, Nat.reduceMod, ↓reduceIte] <;> rfl) | rfl), (by first | (simp only [T.get_n, Nat.reduceEqDiff, Nat.reduceDiv, Nat.reduceMod, Nat.reduceSub, ↓reduceIte] <;> rfl) | rfl), (by first | (simp only [T.get_n, Nat.reduceEqDiff, Nat.reduceDiv, Nat.reduceMod, Nat.reduceSub, ↓reduceIte] <;> rfl) | rfl)⟩
  rintro nn fr s1 ⟨lc, tt, h1, i, f, l, rfl, rfl, hi, rfl, hlc, hlow, hf, hseg, hG, u0, u3, u4, u5⟩
  have hS := hlow.same hw
  have hcnt := lnR_len (t.take i)
  rw [List.length_take] at hcnt
  by_cases hil : i < t.length
  · obtain ⟨c, hc⟩ : ∃ c, t[i]? = some c := ⟨t[i], by simp⟩
    obtain ⟨b, o, eo, cap, ea, hb, hr⟩ := B_at hw hA hS hc
    have ai : intOp Tryz.prog .add 3 .i64 .i64 (i : Int) 1 = some (.int .i64 ((i + 1 : Nat) : Int)) := intOp_add (by unfold inR; omega)
    by_cases h10 : c = 10
    · subst h10
      obtain ⟨a', sl, ha'⟩ := sl_lohi (P := Tryz.prog) (ty := 22) (lo := f) (hi := i + 1) Tryz.underlying22 sz5 hA hR (by omega) (by omega) (by omega)
      have cv := rCv_B (P := Tryz.prog) (src := 22) (dst := 9) Tryz.underlying22 Tryz.underlying5 Tryz.underlying9 ha' hS
      subst ea
      have e10 : ((((10 : UInt8).toNat : Nat) : Int) == 10) = true := rfl
      obtain ⟨h3, ap, hG2, hlow2⟩ := GrL.app (P := Tryz.prog) (t := 68) (t2 := 68) (k := lc + 9 + 8) (f := F + 1) (N := tL [(t.drop f).take (i + 1 - f)]) (hG.set (k := lc + 9 + 7) (b := mkRow [.str ((t.drop f).take (i + 1 - f))] 1) (by omega)) Tryz.underlying68 Tryz.underlying68 sz9 by9 zo9 (src_one (by rw [hget_hset, if_pos rfl])) (by simp [tL]) (by decide) (tL_one _) (by simp [tL, allCell, isCell]) (by rw [tL_len, tL_len]; simp; omega) (by decide) (by omega)
      repeat' (first | with_reducible (first | refine r_seq ?_ | refine r_next ?_ | refine r_block ?_ | refine r_seq_exit ?_ | refine r_seq_ret ?_ | refine r_blk_n ?_ | refine r_blk_ret ?_ | refine r_blk_hit ?_ | refine r_blk_miss rfl ?_ | refine r_skip ?_ | refine r_exit ?_ | refine r_ret ?_ | refine r_rq_exit ?_ | refine r_rq_ret ?_) | ((with_reducible apply r_regA); (focus (exact sd2)); (focus (exact sd1))) | ((with_reducible refine r_reg (List.toList_toArray) ?_ ?_); focus (exact sd1)) | ((with_reducible apply r_end); focus (exact sd4)) | ((with_reducible (first | apply r_move | apply r_assign)); (focus (simp only [Tget_set, Nat.reduceEqDiff, ↓reduceIte, u0, u3, u4, u5] <;> rfl)); (focus (exact sd7))) | ((with_reducible apply r_condT); (focus (exact sd3))) | ((with_reducible (first | apply r_any | apply r_cond)); focus (simp only [↓reduceIte, clsOf, clsCall, newBlk, allocOp, Fr.ev, evParts, ofV, ofA, ofS, put_mk, upd_mk, keyOf_mk, pureOp, readOp, rLd, oneCell_one, pBin, binA, intOp_eql, intOp_lss, List.getElem?_cons_zero, Nat.zero_add, Nat.reduceAdd, Nat.reduceLT, Nat.reduceEqDiff, loadA_w, loadW_s, heavyCall, binA, stepOp, stHeavy, stV_mk, stB_mk, stO_mk, sz5, ag5, Tryz.underlying68, stepAny, wantedA_none, rCall, rLen, Tget_set, lA, lt_t hil, pIA_s Tryz.underlying22 sz5 hil, hr, e10, ai, rSl, pSlice, evO, sl, cv, nBS_s1, aBuiltin, aApp, aApp2, outOf, ap] <;> rfl)) | (with_reducible rw [ifQ_t]) | (with_reducible rw [ifQ_f]) | (with_reducible refine ifQ_intro ?_ ?_ <;> intro hb))
      have e1 := lnR_take hc
      have e2 : lnS (lnR (t.take i)) 10 = ((lnR (t.take i)).1 ++ [(t.drop f).take (i + 1 - f)], []) := by
        unfold lnS; rw [if_pos rfl, hseg, seg_step hf hc]
      rw [e2] at e1
      refine r_rq_n (k := t.length - (i + 1)) (by omega) ⟨_, _, _, i + 1, i + 1, _, rfl, rfl, by omega, rfl, by omega, hlow2 h (hlow.set (Nat.le_refl F)), Nat.le_refl _, ?_, ?_, (by first | (simp only [Tget_set, Nat.reduceEqDiff, ↓reduceIte, u0] <;> rfl) | rfl), (by first | (simp only [Tget_set, Nat.reduceEqDiff, ↓reduceIte] <;> rfl) | rfl), (by first | (simp only [Tget_set, Nat.reduceEqDiff, ↓reduceIte] <;> rfl) | rfl), (by first | (simp only [Tget_set, ↓reduceIte] <;> rfl) | rfl)⟩
      · rw [e1, Nat.sub_self, List.take_zero]
      · rw [e1, tL_app]; exact hG2.up (by omega)
    · subst ea
      have e10 : (((c.toNat : Nat) : Int) == 10) = false := beq_eq_false_iff_ne.2 (fun e => h10 (UInt8.toNat_inj.1 (by show c.toNat = 10; omega)))
      repeat' (first | with_reducible (first | refine r_seq ?_ | refine r_next ?_ | refine r_block ?_ | refine r_seq_exit ?_ | refine r_seq_ret ?_ | refine r_blk_n ?_ | refine r_blk_ret ?_ | refine r_blk_hit ?_ | refine r_blk_miss rfl ?_ | refine r_skip ?_ | refine r_exit ?_ | refine r_ret ?_ | refine r_rq_exit ?_ | refine r_rq_ret ?_) | ((with_reducible apply r_regA); (focus (exact sd2)); (focus (exact sd1))) | ((with_reducible refine r_reg (List.toList_toArray) ?_ ?_); focus (exact sd1)) | ((with_reducible apply r_end); focus (exact sd4)) | ((with_reducible (first | apply r_move | apply r_assign)); (focus (simp only [Tget_set, Nat.reduceEqDiff, ↓reduceIte, u0, u5] <;> rfl)); (focus (exact sd7))) | ((with_reducible apply r_condT); (focus (exact sd3))) | ((with_reducible (first | apply r_any | apply r_cond)); focus (simp only [↓reduceIte, clsOf, clsCall, Fr.ev, ofV, ofA, ofS, put_mk, pureOp, readOp, rLd, oneCell_one, pBin, binA, intOp_eql, intOp_lss, List.getElem?_cons_zero, Nat.reduceLT, Nat.reduceEqDiff, loadA_w, loadW_s, binA, stepOp, stV_mk, sz5, ag5, stepAny, wantedA_none, rCall, rLen, Tget_set, lA, lt_t hil, pIA_s Tryz.underlying22 sz5 hil, hr, e10, ai] <;> rfl)) | (with_reducible rw [ifQ_t]) | (with_reducible rw [ifQ_f]) | (with_reducible refine ifQ_intro ?_ ?_ <;> intro hb))
      have e1 := lnR_take hc
      have e2 : lnS (lnR (t.take i)) c = ((lnR (t.take i)).1, (t.drop f).take (i + 1 - f)) := by
        unfold lnS; rw [if_neg h10, hseg, seg_step hf hc]
      rw [e2] at e1
      refine r_rq_n (k := t.length - (i + 1)) (by omega) ⟨_, _, _, i + 1, f, l, rfl, rfl, by omega, rfl, by omega, hlow, by omega, ?_, ?_, (by first | (simp only [Tget_set, Nat.reduceEqDiff, ↓reduceIte, u0] <;> rfl) | rfl), (by first | (simp only [Tget_set, Nat.reduceEqDiff, ↓reduceIte, u3] <;> rfl) | rfl), (by first | (simp only [Tget_set, Nat.reduceEqDiff, ↓reduceIte, u4] <;> rfl) | rfl), (by first | (simp only [Tget_set, ↓reduceIte] <;> rfl) | rfl)⟩
      · rw [e1]
      · rw [e1]; exact hG.up (by omega)
  · have hend : i = t.length := by omega
    have htk : t.take i = t := by rw [hend]; exact List.take_length
    rw [htk] at hseg hG hcnt
    rw [List.take_of_length_le (by simp; omega)] at hseg
    by_cases hfl : f < t.length
    · obtain ⟨a', sl, ha', _⟩ := sl_lo (P := Tryz.prog) (ty := 22) (lo := f) Tryz.underlying22 sz5 hA hR (by omega) (by omega)
      have cv := rCv_B (P := Tryz.prog) (src := 22) (dst := 9) Tryz.underlying22 Tryz.underlying5 Tryz.underlying9 ha' hS
      obtain ⟨h3, ap, hG2, hlow2⟩ := GrL.app (P := Tryz.prog) (t := 68) (t2 := 68) (k := lc + 8 + 6) (f := F + 1) (N := tL [t.drop f]) (hG.set (k := lc + 8 + 5) (b := mkRow [.str (t.drop f)] 1) (by omega)) Tryz.underlying68 Tryz.underlying68 sz9 by9 zo9 (src_one (by rw [hget_hset, if_pos rfl])) (by simp [tL]) (by decide) (tL_one _) (by simp [tL, allCell, isCell]) (by rw [tL_len, tL_len]; simp; omega) (by decide) (by omega)
      repeat' (first | with_reducible (first | refine r_seq ?_ | refine r_next ?_ | refine r_block ?_ | refine r_seq_exit ?_ | refine r_seq_ret ?_ | refine r_blk_n ?_ | refine r_blk_ret ?_ | refine r_blk_hit ?_ | refine r_blk_miss rfl ?_ | refine r_skip ?_ | refine r_exit ?_ | refine r_ret ?_ | refine r_rq_exit ?_ | refine r_rq_ret ?_) | ((with_reducible apply r_regA); (focus (exact sd2)); (focus (exact sd1))) | ((with_reducible refine r_reg (List.toList_toArray) ?_ ?_); focus (exact sd1)) | ((with_reducible apply r_end); focus (exact sd4)) | ((with_reducible (first | apply r_move | apply r_assign)); (focus (simp only [Tget_set, Nat.reduceEqDiff, ↓reduceIte, u0, u3, u4, u5] <;> rfl)); (focus (exact sd7))) | ((with_reducible apply r_condT); (focus (exact sd3))) | ((with_reducible (first | apply r_any | apply r_cond)); focus (simp only [↓reduceIte, clsOf, clsCall, newBlk, allocOp, Fr.ev, evParts, put_mk, upd_mk, keyOf_mk, pureOp, readOp, pBin, binA, intOp_lss, List.getElem?_cons_zero, Nat.zero_add, Nat.reduceAdd, Nat.reduceLT, Nat.reduceEqDiff, heavyCall, binA, stepOp, stHeavy, stV_mk, stB_mk, stO_mk, Tryz.underlying68, stepAny, wantedA_none, rCall, rLen, Tget_set, lA, lt_f hil, lt_t hfl, rSl, pSlice, evO, sl, cv, nBS_s1, aBuiltin, aApp, aApp2, outOf, ap] <;> rfl)) | (with_reducible rw [ifQ_t]) | (with_reducible rw [ifQ_f]) | (with_reducible refine ifQ_intro ?_ ?_ <;> intro hb))
      subst hQ
      refine ret_back (by simp only [Tryz.results25, resultOf, resultsA, resultA, List.toList_toArray, Fr.ev, Tget_set, ↓reduceIte] <;> rfl) ?_
      have e1 : lnL t = (lnR t).1 ++ [t.drop f] := by unfold lnL; rw [hseg, if_neg (fun e => by have := congrArg List.length e; simp at this; omega)]
      have e3 : tL (lnL t) = tL (lnR t).1 ++ tL [t.drop f] := by rw [e1, tL_app]
      have ok := tok _ short
      rw [e3] at ok ⊢
      refine ⟨_, _, rfl, hG2.lstI (ks := ksT) ok ?_ (by omega), hlow2 h (hlow.set (Nat.le_refl F)), (hlow2 h (hlow.set (Nat.le_refl F))).same hw⟩
      rw [List.length_append, tL_len, tL_len]; simp; omega
    · repeat' (first | with_reducible (first | refine r_seq ?_ | refine r_next ?_ | refine r_block ?_ | refine r_seq_exit ?_ | refine r_seq_ret ?_ | refine r_blk_n ?_ | refine r_blk_ret ?_ | refine r_blk_hit ?_ | refine r_blk_miss rfl ?_ | refine r_skip ?_ | refine r_exit ?_ | refine r_ret ?_ | refine r_rq_exit ?_ | refine r_rq_ret ?_) | ((with_reducible apply r_regA); (focus (exact sd2)); (focus (exact sd1))) | ((with_reducible refine r_reg (List.toList_toArray) ?_ ?_); focus (exact sd1)) | ((with_reducible apply r_end); focus (exact sd4)) | ((with_reducible (first | apply r_move | apply r_assign)); (focus (simp only [Tget_set, Nat.reduceEqDiff, ↓reduceIte, u0, u3, u4, u5] <;> rfl)); (focus (exact sd7))) | ((with_reducible apply r_condT); (focus (exact sd3))) | ((with_reducible (first | apply r_any | apply r_cond)); focus (simp only [↓reduceIte, clsOf, clsCall, Fr.ev, put_mk, pureOp, readOp, pBin, binA, intOp_lss, List.getElem?_cons_zero, Nat.reduceLT, Nat.reduceEqDiff, binA, stepOp, stV_mk, stepAny, wantedA_none, rCall, rLen, Tget_set, lA, lt_f hil, lt_f hfl] <;> rfl)) | (with_reducible rw [ifQ_t]) | (with_reducible rw [ifQ_f]) | (with_reducible refine ifQ_intro ?_ ?_ <;> intro hb))
      subst hQ
      refine ret_back (by simp only [Tryz.results25, resultOf, resultsA, resultA, List.toList_toArray, Fr.ev, Tget_set, ↓reduceIte] <;> rfl) ?_
      have e1 : lnL t = (lnR t).1 := by unfold lnL; rw [hseg, if_pos (List.drop_of_length_le (by omega))]
      rw [← e1] at hG
      refine ⟨_, _, rfl, hG.lstI (ks := ksT) (tok _ short) ?_ (by omega), hlow, hS⟩
      rw [e1, tL_len]; omega
theorem linesBQ {h : Heap} {F : Nat} {a : AV} {t : Tx} (hA : BytP h a t) (hR : RoomA a) (ht : t.length ≤ 50000) : SndQ Tryz.prog GL 25 [a] ⟨h, F⟩ (SD 25 [a] ⟨h, F⟩) :=
  (linesB h F a t hA hR ht).mono fun o ho => fun t' hA' _ _ => by
    obtain rfl := hA.uniq hA'
    exact ho

end Go.Proofs.YtfhgiadogeephaaGreatDoor

namespace Go.Proofs.YtfhgiadogeephaaGreatDoor
open Go Go.Ai
set_option maxRecDepth 100000

theorem av_self_B {h : Heap} {a : AV} {t : Tx} (hb : BytP h a t) : avEq a a = true := by
  rcases hb.2 with ⟨rfl | rfl, _⟩ | ⟨b, o, eo, cap, rfl, _⟩
  · rfl
  · rfl
  · exact av_self_slice
theorem res_one {h : Heap} {a : AV} {X : List (List AV)} {Y : List (List (List AV))} {i : Nat} {x : List AV} {l : List (List AV)} (hA : RowN h ksR 4 ksV a X Y) (hR : RoomA a) (hx : X[i]? = some x) (hy : Y[i]? = some l) :
    ∃ a', sliceA Tryz.prog 23 a (some (.int .i64 (i : Int))) (some (.int .i64 ((i + 1 : Nat) : Int))) none = some a' ∧ RowN h ksR 4 ksV a' [x] [l] := by
  have hi := (List.getElem?_eq_some_iff.1 hx).1
  obtain ⟨b, o, eo, cap, rfl, h0, _⟩ := hA.1.at hi
  have hok := hA.1.ok hi
  rw [List.getElem?_eq_getElem hi] at hx
  have hx := Option.some.inj hx
  rw [hx] at h0 hok
  obtain ⟨v, l', g1, g2, g3⟩ := hA.get (show X[i]? = some x by rw [List.getElem?_eq_getElem hi, hx])
  rw [hy] at g2; cases g2
  have key : ∀ (eo' : Nat) (cap' : Option Nat), RowN h ksR 4 ksV (.slice b (Nat.add o (Nat.mul i 5)) eo' (Nat.sub (i + 1) i) cap') [x] [l] := fun eo' cap' => by
    refine ⟨⟨fun y hy => by obtain rfl := List.mem_singleton.1 hy; exact hok, (by show 1 ≤ maxLen; decide), .inr ⟨b, _, eo', cap', by rw [show Nat.sub (i + 1) i = 1 by show i + 1 - i = 1; omega]; rfl, fun _ => ?_⟩⟩, inner_mk rfl fun j y hj => ?_⟩
    · show rdAB (hget h b) (o + i * 5) 5 = some ([x].flatten)
      have h0' : rdAB (hget h b) (o + i * 5) 5 = some x := h0
      rw [h0']; simp
    · cases j with
      | zero => simp at hj; subst hj; exact ⟨v, l, g1, rfl, g3⟩
      | succ j => simp at hj
  cases cap with
  | none => exact ⟨_, by simp only [sliceA, Tryz.underlying23, sliceD, sz28, bnd2 (show i ≤ i + 1 by omega) (show i + 1 ≤ X.length by omega), sliceOpen]; rfl, key _ _⟩
  | some c =>
    have hc : X.length ≤ c := hR
    exact ⟨_, by simp only [sliceA, Tryz.underlying23, sliceD, sz28, bnd2 (show i ≤ i + 1 by omega) (show i + 1 ≤ c by omega), sliceShut]; rfl, key _ _⟩
theorem resAll_one {x x2 : List AV} {l l2 : List (List AV)} : resAll [x] [x2] [l] [l2] ↔ x.take 4 = x2.take 4 ∧ l = l2 := by
  constructor
  · intro h; exact h.2 0 x x2 l l2 rfl rfl rfl rfl
  · intro h
    refine ⟨rfl, fun i y y2 o o2 h1 h2 h3 h4 => ?_⟩
    cases i with
    | zero => simp at h1 h2 h3 h4; subst h1 h2 h3 h4; exact h
    | succ i => simp at h1
set_option maxHeartbeats 4000000 in
theorem firstR (h : Heap) (F : Nat) (a b : AV) (X X2 : List (List AV)) (Y Y2 : List (List (List AV))) (hA : RowN h ksR 4 ksV a X Y) (hB : RowN h ksR 4 ksV b X2 Y2) (rA : RoomA a) (rB : RoomA b) : Snd Tryz.prog GL 21 [a, b] ⟨h, F⟩ [.val (.int .i64 (firstI X X2 Y Y2)) ⟨h, F⟩] := by
  refine snd_val (by simp [Kin]) fun hw => ?_
  have mxl : maxLen = 9223372036854775807 := by decide
  have lA := fun (h2 : Heap) => rLen1_L (h2 := h2) Tryz.underlying23 hA.1
  have lB := fun (h2 : Heap) => rLen1_L (h2 := h2) Tryz.underlying23 hB.1
  have hlA := hA.1.len
  have hlB := hB.1.len
  have hyA := hA.len
  have hyB := hB.len
  obtain ⟨mn, hmn⟩ : ∃ mn, mn = min X.length X2.length := ⟨_, rfl⟩
  have mm := fun (s : St) => (aMn_n (s := s) (k := .i64) (a := X.length) (b := X2.length)).trans (by rw [← hmn])
  refine sndQ_body (K := (KT S0)) kt_ok mixed noNum (m := mn + 1) Tryz.func21 ?_
  generalize hQ : retQ _ _ _ _ _ _ = Q0
  refine body_go (c := Tryz.f21.body.getD .skip) (n := 36) rfl rfl (by simp only [↓reduceIte, T.setList, T.set_e, T.set_n, Nat.reduceDiv, Nat.reduceMod, Nat.reduceEqDiff, Nat.zero_add] <;> rfl) ?_
  simp only [Tryz.f21, Option.getD_some]
  repeat' (first | with_reducible (first | refine r_seq ?_ | refine r_next ?_ | refine r_block ?_ | refine r_seq_exit ?_ | refine r_seq_ret ?_ | refine r_blk_n ?_ | refine r_blk_ret ?_ | refine r_blk_hit ?_ | refine r_blk_miss rfl ?_ | refine r_skip ?_ | refine r_exit ?_ | refine r_ret ?_ | refine r_rq_exit ?_ | refine r_rq_ret ?_) | ((with_reducible apply r_regA); (focus (exact sd2)); (focus (exact sd1))) | ((with_reducible refine r_reg (List.toList_toArray) ?_ ?_); focus (exact sd1)) | ((with_reducible apply r_drawL); (focus kernel_rfl); (focus kernel_rfl); (focus (exact sd1))) | ((with_reducible apply r_end); focus (exact sd4)) | ((with_reducible (first | apply r_move | apply r_assign)); (focus (exact sd3)); (focus (exact sd7))) | ((with_reducible apply r_condT); (focus (exact sd3))) | ((with_reducible (first | apply r_any | apply r_cond)); focus (simp only [↓reduceIte, clsOf, clsCall, Fr.ev, evs, ofV, ofA, ofS, put_mk, pureOp, readOp, List.getElem?_cons_zero, Nat.reduceLT, Nat.reduceEqDiff, Nat.reduceSub, heavyCall, stepOp, stHeavy, stV_mk, stO_mk, T.get_n, T.set_n, T.set_e, Nat.reduceDiv, Nat.reduceMod, stepAny, wantedA_none, rCall, rLen, lA, lB, mm, aBuiltin] <;> rfl)) | (with_reducible rw [ifQ_t]) | (with_reducible rw [ifQ_f]) | (with_reducible refine ifQ_intro ?_ ?_ <;> intro hb))
  refine r_loop (I := fun nn fr s1 => ∃ lc tt i, fr = ⟨F, lc, 36, tt, [], .no⟩ ∧ s1 = ⟨h, F + 1⟩ ∧ i ≤ mn ∧ nn = mn - i ∧ lc + nn * 1000 ≤ 100000000000000000000000000 ∧ (∀ j : Nat, j < i → (resZ X Y)[j]? = (resZ X2 Y2)[j]?) ∧ tt.get 0 = some a ∧ tt.get 1 = some b ∧ tt.get 5 = some (.int .i64 (mn : Int)) ∧ tt.get 12 = some (.int .i64 (mn : Int)) ∧ tt.get 13 = some (.int .i64 (i : Int))) (n := mn) ?_ ?_ ?_
  · omega
  · exact ⟨_, _, 0, rfl, rfl, Nat.zero_le _, (Nat.sub_zero _).symm, by omega, fun j hj => absurd hj (Nat.not_lt_zero _), (by first | (simp only [T.get_n, ↓reduceIte] <;> rfl) | rfl), (by first | (simp only [T.get_n, Nat.reduceEqDiff, Nat.reduceDiv, Nat.reduceMod, ↓reduceIte] <;> rfl) | rfl), (by first | (simp only [T.get_n, Nat.reduceEqDiff, Nat.reduceDiv, Nat.reduceMod, Nat.reduceSub, ↓reduceIte] <;> rfl) | rfl), (by first | (simp only [T.get_n, Nat.reduceEqDiff, Nat.reduceDiv, Nat.reduceMod, Nat.reduceSub, ↓reduceIte] <;> rfl) | rfl), (by first | (simp only [T.get_n, Nat.reduceEqDiff, Nat.reduceDiv, Nat.reduceMod, Nat.reduceSub, ↓reduceIte] <;> rfl) | rfl)⟩
  rintro nn fr s1 ⟨lc, tt, i, rfl, rfl, hi, rfl, hlc, hI, u0, u1, u5, u12, u13⟩
  by_cases hil : i < mn
  · obtain ⟨x, hx⟩ : ∃ x, X[i]? = some x := ⟨X[i]'(by omega), by simp⟩
    obtain ⟨x2, hx2⟩ : ∃ x, X2[i]? = some x := ⟨X2[i]'(by omega), by simp⟩
    obtain ⟨l, hy⟩ : ∃ l, Y[i]? = some l := ⟨Y[i]'(by omega), by simp⟩
    obtain ⟨l2, hy2⟩ : ∃ l, Y2[i]? = some l := ⟨Y2[i]'(by omega), by simp⟩
    obtain ⟨a1, sa, hA1⟩ := res_one hA rA hx hy
    obtain ⟨b1, sb, hB1⟩ := res_one hB rB hx2 hy2
    have ai : intOp Tryz.prog .add 3 .i64 .i64 (i : Int) 1 = some (.int .i64 ((i + 1 : Nat) : Int)) := intOp_add (by unfold inR; omega)
    have z1 := resZ_at hx hy
    have z2 := resZ_at hx2 hy2
    by_cases hc : x.take 4 = x2.take 4 ∧ l = l2
    · have hd := dec_t (resAll_one.2 hc)
      repeat' (first | with_reducible (first | refine r_seq ?_ | refine r_next ?_ | refine r_block ?_ | refine r_seq_exit ?_ | refine r_seq_ret ?_ | refine r_blk_n ?_ | refine r_blk_ret ?_ | refine r_blk_hit ?_ | refine r_blk_miss rfl ?_ | refine r_skip ?_ | refine r_exit ?_ | refine r_ret ?_ | refine r_rq_exit ?_ | refine r_rq_ret ?_) | ((with_reducible apply r_regA); (focus (exact sd2)); (focus (exact sd1))) | ((with_reducible refine r_reg (List.toList_toArray) ?_ ?_); focus (exact sd1)) | ((with_reducible apply (r_drawG (js := [(0, 0), (1, 0), (2, 0), (3, 4), (4, 15), (5, 0), (6, 0), (7, 0), (8, 128), (9, 480), (10, 1023), (11, 2047)]))); (focus kernel_rfl); (focus kernel_rfl); (focus (exact sd1))) | ((with_reducible apply g_end); (focus (simp only [List.length_cons, List.length_nil, Nat.add_assoc, Nat.reduceAdd, Nat.zero_add] <;> rfl)); simp only [withH_mk, addAll_nil, withH_mk, Int.reduceNeg, addAll_nil]) | ((with_reducible apply g_undef); (focus rfl); (focus (simp only [wantedA_none] <;> rfl)); (focus (exact sd6))) | ((with_reducible apply g_pure); (focus rfl); (focus rfl); (focus rfl); (focus (simp only [↓reduceIte, Bool.not_true, Fr.ev, ofV, ofA, ofS, pureOp, pBin, binA, Nat.reduceEqDiff, pUn_not, binA, Tget_set, u0, u1, ai] <;> rfl)); (focus (exact sd6))) | ((with_reducible apply g_read); (focus rfl); (focus rfl); (focus rfl); (focus (simp only [↓reduceIte, Fr.ev, readOp, Nat.reduceEqDiff, Tget_set, rSl, pSlice, evO, sa, sb] <;> rfl)); (focus (exact sd6))) | ((with_reducible apply g_act); (focus rfl); (focus rfl); (focus rfl); (focus rfl); (focus (simp only [heavy, ↓reduceIte, Fr.ev, evs, withH_mk, Nat.reduceEqDiff, callTo_s, heavyCall, target, List.nil_append, List.append_nil, Tget_set, addMade_nil, k_same3 hA1 hB1, hd, sameT] <;> rfl)); (focus (exact sd6)); (focus (simp only [decide_true, Nat.reduceDiv, Nat.reduceMod, Nat.testBit_eq_decide_div_mod_eq, Nat.reducePow, readsLeft_nil, readsLeft_cons, rdl1_t, readsOk_nil] <;> rfl)); (focus (simp only [addMade_nil, asideOk_nil] <;> rfl))) | ((with_reducible apply r_drawL); (focus kernel_rfl); (focus kernel_rfl); (focus (exact sd1))) | ((with_reducible apply r_end); focus (exact sd4)) | ((with_reducible (first | apply r_move | apply r_assign)); (focus (simp only [Tget_set, Nat.reduceEqDiff, ↓reduceIte, u13] <;> rfl)); (focus (exact sd7))) | ((with_reducible apply r_condT); (focus (exact sd3))) | ((with_reducible (first | apply r_any | apply r_cond)); focus (simp only [↓reduceIte, clsOf, Fr.ev, ofV, ofA, ofS, put_mk, pureOp, pBin, binA, intOp_lss, Nat.reduceLT, Nat.reduceEqDiff, binA, stepOp, stV_mk, stepAny, wantedA_none, Tget_set, u12, u13, lt_t hil, ai] <;> rfl)) | (with_reducible rw [ifQ_t]) | (with_reducible rw [ifQ_f]) | (with_reducible refine ifQ_intro ?_ ?_ <;> intro hb))
      refine r_rq_n (k := mn - (i + 1)) (by omega) ⟨_, _, i + 1, rfl, rfl, by omega, rfl, by omega, fun j hj => ?_, (by first | (simp only [Tget_set, Nat.reduceEqDiff, ↓reduceIte, u0] <;> rfl) | rfl), (by first | (simp only [Tget_set, Nat.reduceEqDiff, ↓reduceIte, u1] <;> rfl) | rfl), (by first | (simp only [Tget_set, Nat.reduceEqDiff, ↓reduceIte, u5] <;> rfl) | rfl), (by first | (simp only [Tget_set, Nat.reduceEqDiff, ↓reduceIte, u12] <;> rfl) | rfl), (by first | (simp only [Tget_set, ↓reduceIte] <;> rfl) | rfl)⟩
      by_cases hji : j < i
      · exact hI j hji
      · obtain rfl : j = i := by omega
        rw [z1, z2, hc.1, hc.2]
    · have hd := dec_f (p := resAll [x] [x2] [l] [l2]) (fun h => hc (resAll_one.1 h))
      repeat' (first | with_reducible (first | refine r_seq ?_ | refine r_next ?_ | refine r_block ?_ | refine r_seq_exit ?_ | refine r_seq_ret ?_ | refine r_blk_n ?_ | refine r_blk_ret ?_ | refine r_blk_hit ?_ | refine r_blk_miss rfl ?_ | refine r_skip ?_ | refine r_exit ?_ | refine r_ret ?_ | refine r_rq_exit ?_ | refine r_rq_ret ?_) | ((with_reducible apply r_regA); (focus (exact sd2)); (focus (exact sd1))) | ((with_reducible refine r_reg (List.toList_toArray) ?_ ?_); focus (exact sd1)) | ((with_reducible apply (r_drawG (js := [(0, 0), (1, 0), (2, 0), (3, 4), (4, 15), (5, 0), (6, 0), (7, 0), (8, 128), (9, 480), (10, 1023), (11, 2047)]))); (focus kernel_rfl); (focus kernel_rfl); (focus (exact sd1))) | ((with_reducible apply g_end); (focus (simp only [List.length_cons, List.length_nil, Nat.add_assoc, Nat.reduceAdd, Nat.zero_add] <;> rfl)); simp only [withH_mk, addAll_nil, withH_mk, Int.reduceNeg, addAll_nil]) | ((with_reducible apply g_undef); (focus rfl); (focus (simp only [wantedA_none] <;> rfl)); (focus (exact sd6))) | ((with_reducible apply g_pure); (focus rfl); (focus rfl); (focus rfl); (focus (simp only [↓reduceIte, Bool.not_false, Fr.ev, ofV, ofA, ofS, pureOp, pBin, binA, Nat.reduceEqDiff, pUn_not, binA, Tget_set, u0, u1, ai] <;> rfl)); (focus (exact sd6))) | ((with_reducible apply g_read); (focus rfl); (focus rfl); (focus rfl); (focus (simp only [↓reduceIte, Fr.ev, readOp, Nat.reduceEqDiff, Tget_set, rSl, pSlice, evO, sa, sb] <;> rfl)); (focus (exact sd6))) | ((with_reducible apply g_act); (focus rfl); (focus rfl); (focus rfl); (focus rfl); (focus (simp only [heavy, ↓reduceIte, Fr.ev, evs, withH_mk, Nat.reduceEqDiff, callTo_s, heavyCall, target, List.nil_append, List.append_nil, Tget_set, addMade_nil, k_same3 hA1 hB1, hd, sameT] <;> rfl)); (focus (exact sd6)); (focus (simp only [decide_true, Nat.reduceDiv, Nat.reduceMod, Nat.testBit_eq_decide_div_mod_eq, Nat.reducePow, readsLeft_nil, readsLeft_cons, rdl1_t, readsOk_nil] <;> rfl)); (focus (simp only [addMade_nil, asideOk_nil] <;> rfl))) | ((with_reducible apply r_drawL); (focus kernel_rfl); (focus kernel_rfl); (focus (exact sd1))) | ((with_reducible apply r_end); focus (exact sd4)) | ((with_reducible (first | apply r_move | apply r_assign)); (focus (simp only [Tget_set, Nat.reduceEqDiff, ↓reduceIte, u13] <;> rfl)); (focus (exact sd7))) | ((with_reducible apply r_condT); (focus (exact sd3))) | ((with_reducible (first | apply r_any | apply r_cond)); focus (simp only [↓reduceIte, clsOf, Fr.ev, put_mk, pureOp, pBin, binA, intOp_lss, Nat.reduceLT, binA, stepOp, stV_mk, stepAny, wantedA_none, u12, u13, lt_t hil] <;> rfl)) | (with_reducible rw [ifQ_t]) | (with_reducible rw [ifQ_f]) | (with_reducible refine ifQ_intro ?_ ?_ <;> intro hb))
      subst hQ
      refine ret_back (by simp only [Tryz.results21, resultOf, resultsA, resultA, List.toList_toArray, Fr.ev, Tget_set, ↓reduceIte] <;> rfl) ?_
      have e1 : fstR X X2 Y Y2 = i := fstR_is hyA hyB (by omega) (by omega) hI (.inr (.inr (by rw [z1, z2]; intro e; exact hc (by simpa using e))))
      exact ⟨_, by unfold firstI; rw [e1, if_pos (.inl (by omega))], Same.base _ _ _⟩
  · have hend : i = mn := by omega
    subst hend
    have e1 : fstR X X2 Y Y2 = i := fstR_is hyA hyB (by omega) (by omega) hI (by omega)
    by_cases hne : X.length = X2.length
    · have n1 : ((X.length : Int) != (X2.length : Int)) = false := by simp [hne]
      repeat' (first | with_reducible (first | refine r_seq ?_ | refine r_next ?_ | refine r_block ?_ | refine r_seq_exit ?_ | refine r_seq_ret ?_ | refine r_blk_n ?_ | refine r_blk_ret ?_ | refine r_blk_hit ?_ | refine r_blk_miss rfl ?_ | refine r_skip ?_ | refine r_exit ?_ | refine r_ret ?_ | refine r_rq_exit ?_ | refine r_rq_ret ?_) | ((with_reducible apply r_regA); (focus (exact sd2)); (focus (exact sd1))) | ((with_reducible refine r_reg (List.toList_toArray) ?_ ?_); focus (exact sd1)) | ((with_reducible apply r_drawL); (focus kernel_rfl); (focus kernel_rfl); (focus (exact sd1))) | ((with_reducible apply r_end); focus (exact sd4)) | ((with_reducible (first | apply r_move | apply r_assign)); (focus (simp only [Tget_set, Nat.reduceEqDiff, ↓reduceIte, u0, u1] <;> rfl)); (focus (exact sd7))) | ((with_reducible apply r_condT); (focus (exact sd3))) | ((with_reducible (first | apply r_any | apply r_cond)); focus (simp only [↓reduceIte, clsOf, clsCall, Fr.ev, ofV, ofA, ofS, put_mk, pureOp, readOp, pBin, binA, intOp_neq, intOp_lss, List.getElem?_cons_zero, Nat.reduceLT, Nat.reduceEqDiff, binA, Int.reduceNeg, stepOp, stV_mk, stepAny, wantedA_none, rCall, rLen, Tget_set, u12, u13, lt_f hil, lA, lB, intOp_neq, n1] <;> rfl)) | (with_reducible rw [ifQ_t]) | (with_reducible rw [ifQ_f]) | (with_reducible refine ifQ_intro ?_ ?_ <;> intro hb))
      subst hQ
      refine ret_back (by simp only [Tryz.results21, resultOf, resultsA, resultA, List.toList_toArray, Fr.ev, Tget_set, ↓reduceIte] <;> rfl) ?_
      exact ⟨_, by unfold firstI; rw [if_neg]; rw [e1]; omega, Same.base _ _ _⟩
    · have n1 : ((X.length : Int) != (X2.length : Int)) = true := by simp; omega
      repeat' (first | with_reducible (first | refine r_seq ?_ | refine r_next ?_ | refine r_block ?_ | refine r_seq_exit ?_ | refine r_seq_ret ?_ | refine r_blk_n ?_ | refine r_blk_ret ?_ | refine r_blk_hit ?_ | refine r_blk_miss rfl ?_ | refine r_skip ?_ | refine r_exit ?_ | refine r_ret ?_ | refine r_rq_exit ?_ | refine r_rq_ret ?_) | ((with_reducible apply r_regA); (focus (exact sd2)); (focus (exact sd1))) | ((with_reducible refine r_reg (List.toList_toArray) ?_ ?_); focus (exact sd1)) | ((with_reducible apply r_drawL); (focus kernel_rfl); (focus kernel_rfl); (focus (exact sd1))) | ((with_reducible apply r_end); focus (exact sd4)) | ((with_reducible (first | apply r_move | apply r_assign)); (focus (simp only [Tget_set, Nat.reduceEqDiff, ↓reduceIte, u0, u1, u5] <;> rfl)); (focus (exact sd7))) | ((with_reducible apply r_condT); (focus (exact sd3))) | ((with_reducible (first | apply r_any | apply r_cond)); focus (simp only [↓reduceIte, clsOf, clsCall, Fr.ev, put_mk, pureOp, readOp, pBin, binA, intOp_neq, intOp_lss, List.getElem?_cons_zero, Nat.reduceLT, Nat.reduceEqDiff, binA, stepOp, stV_mk, stepAny, wantedA_none, rCall, rLen, Tget_set, u12, u13, lt_f hil, lA, lB, intOp_neq, n1] <;> rfl)) | (with_reducible rw [ifQ_t]) | (with_reducible rw [ifQ_f]) | (with_reducible refine ifQ_intro ?_ ?_ <;> intro hb))
      subst hQ
      refine ret_back (by simp only [Tryz.results21, resultOf, resultsA, resultA, List.toList_toArray, Fr.ev, Tget_set, ↓reduceIte] <;> rfl) ?_
      exact ⟨_, by unfold firstI; rw [if_pos (.inr hne), e1], Same.base _ _ _⟩
section
variable {S : FuncId → List AV → St → Out → Prop}
theorem k_first {h h1 : Heap} {F : Nat} {a b : AV} {X X2 : List (List AV)} {Y Y2 : List (List (List AV))} (hA : RowN h ksR 4 ksV a X Y) (hB : RowN h ksR 4 ksV b X2 Y2) (rA : RoomA a) (rB : RoomA b) (hs : SameH h h1) : CallF.fn (KT S) 21 [a, b] ⟨h1, F⟩ = some [.val (.int .i64 (firstI X X2 Y Y2)) ⟨h1, F⟩] :=
  kt_fn ((rfl : _ = spFr [a, b] ⟨h1, F⟩).trans (by simp only [spFr, rowsOf_same hA hs, rowsOf_same hB hs])) (firstR h1 F a b X X2 Y Y2 (hA.same hs) (hB.same hs) rA rB)
end

end Go.Proofs.YtfhgiadogeephaaGreatDoor

/-! A call of which something is said, in a region that draws its order. -/
namespace Go.Ai
open Go
variable {P : Program} {G : Glob} {K : CallF} {Q : Ex → Fr → St → Prop} {S : FuncId → List AV → St → Out → Prop} {l : List Oper} {fr : Fr} {s : St} {o : Oper} {j : Nat} {js : List Nat} {f : FuncId} {args : List AV}
theorem q_callC (ho : l[j]? = some o) (hw : wantedA fr l.toArray o = true) (hc : callOuts P K fr j s o.op = KUf P G S f args s) (hs : SndQ P G f args s (S f args s))
    (hk : ∀ x, S f args s x → backQ fr o.dst (fun fr' s' => SameH s.h s'.h ∧ DQ P G K l Q js fr' s') x) : DQ P G K l Q (j :: js) fr s := by
  obtain ⟨outs, e, hq⟩ := ku_hit hs
  rw [e] at hc
  exact ⟨o, ho, .inr (.inr ⟨hw, outs, hc, fun x hx => hk x (hq x hx)⟩)⟩
section
variable {e1 e2 : Int} {A B : Tx} {X X2 : List (List AV)} {Y Y2 : List (List (List AV))}
theorem difV_A (h : ¬ e1 = e2) : difV e1 e2 A B X X2 Y Y2 = ⟨1, min e1 e2, 0, true⟩ := by unfold difV; rw [if_pos h]
theorem difV_B (h : e1 = e2) (h0 : 0 ≤ firstI X X2 Y Y2) : difV e1 e2 A B X X2 Y Y2 = ⟨2, seqI X X2 (fstR X X2 Y Y2), 0, true⟩ := by unfold difV; rw [if_neg (fun e => e h), if_pos h0]
theorem difV_C (h : e1 = e2) (h0 : ¬ 0 ≤ firstI X X2 Y Y2) (hAB : A = B) : difV e1 e2 A B X X2 Y Y2 = ⟨0, 0, 0, false⟩ := by unfold difV; rw [if_neg (fun e => e h), if_neg h0, if_pos hAB]
theorem difV_D (h : e1 = e2) (h0 : ¬ 0 ≤ firstI X X2 Y Y2) (hAB : ¬ A = B) : difV e1 e2 A B X X2 Y Y2 = ⟨3, 0, (fd (lnL A) (lnL B) : Int), true⟩ := by unfold difV; rw [if_neg (fun e => e h), if_neg h0, if_neg hAB]
end
theorem fill3_0 (a b c v : AV) : fillA [a, b, c] 0 [v] = [v, b, c] := rfl
theorem fill3_1 (a b c v : AV) : fillA [a, b, c] 1 [v] = [a, v, c] := rfl
theorem fill3_2 (a b c v : AV) : fillA [a, b, c] 2 [v] = [a, b, v] := rfl
theorem b31 : (Nat.beq 1 1 && Nat.ble 1 3) = true := rfl
theorem b32 : (Nat.beq 1 1 && Nat.ble 2 3) = true := rfl
theorem b33 : (Nat.beq 1 1 && Nat.ble 3 3) = true := rfl
theorem res_seq {h : Heap} {F : Nat} {a : AV} {X : List (List AV)} {Y : List (List (List AV))} (hw : Wf ⟨h, F⟩) (hl : RowN h ksR 4 ksV a X Y) {i : Nat} (hi : i < X.length) : ∃ b o eo cap, a = .slice b o eo X.length cap ∧ b < ky F 0 ∧ rdAB (hget h b) (o + i * 5) 1 = some [.int .i64 (seqAt X i)] := by
  obtain ⟨b, o, eo, cap, e, h0, hp⟩ := hl.1.at hi
  obtain ⟨q, k, c, p, v, el, _⟩ := cks_R (hl.1.ok hi)
  have h1 := hp 0 1 (by decide)
  rw [el] at h1
  have hx : X[i]? = some [.int .i64 q, .int .i64 k, .int .i64 c, .int .i64 p, v] := by rw [List.getElem?_eq_getElem hi, el]
  refine ⟨b, o, eo, cap, e, rd_low hw h0, ?_⟩
  unfold seqAt
  rw [hx]
  exact h1
end Go.Ai

namespace Go.Proofs.YtfhgiadogeephaaGreatDoor
open Go Go.Ai
set_option maxRecDepth 100000
set_option maxHeartbeats 16000000 in
theorem differA_D (h : Heap) (F : Nat) (e1 e2 p1 p2 : Int) (sa sb ra rb : AV) (A B : Tx) (X X2 : List (List AV)) (Y Y2 : List (List (List AV))) (hSA : BytP h sa A) (hSB : BytP h sb B) (rSA : RoomA sa) (rSB : RoomA sb) (lSA : A.length ≤ 50000) (lSB : B.length ≤ 50000) (hRA : RowN h ksR 4 ksV ra X Y) (hRB : RowN h ksR 4 ksV rb X2 Y2) (rRA : RoomA ra) (rRB : RoomA rb) (hE : e1 = e2) (h0 : ¬ 0 ≤ firstI X X2 Y Y2) (hAB : ¬ A = B) : Snd Tryz.prog GL 6 [.agg [.int .i64 e1, sa, ra, .int .i64 p1], .agg [.int .i64 e2, sb, rb, .int .i64 p2]] ⟨h, F⟩ [.val (difA (difV e1 e2 A B X X2 Y Y2)) ⟨h, F⟩] := by
  refine snd_val (by simp [Kin, Kins, difA]) fun hw => ?_
  have mxl : maxLen = 9223372036854775807 := by decide
  have lA := fun (h2 : Heap) => rLen1_L (h2 := h2) Tryz.underlying23 hRA.1
  have lB := fun (h2 : Heap) => rLen1_L (h2 := h2) Tryz.underlying23 hRB.1
  have hlA := hRA.1.len
  have hlB := hRB.1.len
  have n1 : (e1 != e2) = false := by simpa using hE
  have kf := fun (S : FuncId → List AV → St → Out → Prop) (h1 : Heap) (hs : SameH h h1) => k_first (S := S) (F := F + 1) hRA hRB rRA rRB hs
  have hd := dec_f hAB
  have low0 : Low F h (hset (hset (hset h (ky F 0) (mkRow [.int .i64 e1, sa, ra, .int .i64 p1] 0)) (ky F 1) (mkRow [.int .i64 e2, sb, rb, .int .i64 p2] 0)) (ky F 2) (mkRow [.int .i64 0, .int .i64 0, .int .i64 0] 0)) := (((Low.refl F h).set (Nat.le_refl F)).set (Nat.le_refl F)).set (Nat.le_refl F)
  have S0' := low0.same hw
  refine sndQ_body (K := (KT SD)) kt_ok mixed noNum (m := (lnL A).length + 1) Tryz.func6 ?_
  generalize hQ : retQ _ _ _ _ _ _ = Q0
  refine body_go (c := Tryz.f6.body.getD .skip) (n := 81) rfl rfl (by simp only [↓reduceIte, T.setList, T.set_e, T.set_n, Nat.reduceDiv, Nat.reduceMod, Nat.reduceEqDiff, Nat.zero_add] <;> rfl) ?_
  simp only [Tryz.f6, Option.getD_some]
  repeat' (first | with_reducible (first | refine r_seq ?_ | refine r_next ?_ | refine r_block ?_ | refine r_seq_exit ?_ | refine r_seq_ret ?_ | refine r_blk_n ?_ | refine r_blk_ret ?_ | refine r_blk_hit ?_ | refine r_blk_miss rfl ?_ | refine r_skip ?_ | refine r_exit ?_ | refine r_ret ?_ | refine r_rq_exit ?_ | refine r_rq_ret ?_) | ((with_reducible apply r_regA); (focus (exact sd2)); (focus (exact sd1))) | ((with_reducible refine r_reg (List.toList_toArray) ?_ ?_); focus (exact sd1)) | ((with_reducible apply (r_drawQ (js := [0, 1, 3, 4, 2, 5, 6, 7]))); (focus kernel_rfl); (focus kernel_rfl); (focus (exact sd1))) | ((with_reducible apply q_end); (focus (simp only [List.length_cons, List.length_nil, Nat.add_assoc, Nat.reduceAdd, Nat.zero_add] <;> rfl))) | ((with_reducible apply q_any); (focus rfl); (iterate 2 (focus (simp only [↓reduceIte, clsOf, clsCall, Fr.ev, evs, put_mk, ky_inj, pureOp, readOp, pFA, pFA1, pFA2, rLd, rdAB_row, oneCell_one, hget_same, hget_hset_ite, List.length_cons, List.length_nil, List.getElem?_cons_zero, List.getElem?_cons_succ, List.drop_zero, List.drop_succ_cons, List.take_succ_cons, List.take_zero, Nat.zero_add, Nat.reduceAdd, Nat.reduceLT, Nat.reduceLeDiff, Nat.reduceEqDiff, Nat.reduceSub, Nat.add_eq, loadA_w, loadW_s, callTo_s, heavyCall, target, List.nil_append, List.append_nil, stepOp, stHeavy, stV_mk, T.get_n, T.set_n, T.set_e, Nat.reduceDiv, Nat.reduceMod, sz22, ag22, Tryz.underlying25, stepAny, wantedA_none, readSelf, av_self_B hSA, av_self_B hSB] <;> rfl))); (focus (exact SameH.refl _))) | ((with_reducible apply r_drawL); (focus kernel_rfl); (focus kernel_rfl); (focus (exact sd1))) | ((with_reducible apply r_end); focus (exact sd4)) | ((with_reducible (first | apply r_move | apply r_assign)); (focus (exact sd3)); (focus (exact sd7))) | ((with_reducible apply r_condT); (focus (exact sd3))) | ((with_reducible apply r_gT); (focus (exact sd5)); (focus rfl); (focus (exact sd3))) | ((with_reducible (first | apply r_any | apply r_cond)); focus (simp only [↓reduceIte, clsOf, clsCall, newBlk, allocOp, Fr.ev, evs, ofV, ofA, ofS, nVar, AV.cells, rowOf_mk, put_mk, upd_mk, keyOf_mk, ky_inj, pureOp, readOp, pFA, pFA1, pFA2, rLd, rdAB_row, oneCell_one, hget_same, hget_hset_ite, pBin, binA, intOp_neq, intOp_geq, List.length_cons, List.length_nil, List.getElem?_cons_zero, List.getElem?_cons_succ, List.drop_zero, List.drop_succ_cons, List.take_succ_cons, List.take_zero, Nat.zero_add, Nat.add_zero, Nat.reduceAdd, Nat.reduceLT, Nat.reduceLeDiff, Nat.reduceEqDiff, Nat.reduceSub, Nat.add_eq, loadA_w, loadW_s, callTo_s, heavyCall, target, List.nil_append, List.append_nil, binA, stepOp, stHeavy, stV_mk, stB_mk, stO_mk, T.get_n, T.set_n, T.set_e, Nat.reduceDiv, Nat.reduceMod, sz2, ag2, sz22, ag22, sz23, ag23, Tryz.underlying25, zr31, tg31, stepAny, wantedA_none, n1, intOp_neq, kf SD _, sameS hw, sameT, ge_f h0, k_beq hSA hSB, hd] <;> rfl)) | (with_reducible rw [ifQ_t]) | (with_reducible rw [ifQ_f]) | (with_reducible refine ifQ_intro ?_ ?_ <;> intro hb))
  refine q_callC (S := SD) (f := 23) (by rfl) (by first | rfl | (simp only [wantedA_none, Tget_set])) (by simp only [callOuts, callTo_s, target, evs, Fr.ev, T.get_n, Nat.reduceEqDiff, Nat.reduceDiv, Nat.reduceMod, Nat.reduceSub, ↓reduceIte, List.nil_append, List.append_nil]; exact kc_miss rfl) ?_ ?_
  · exact linesAQ (hSA.same S0') rSA (by omega)
  intro o ho
  obtain ⟨v, h2, rfl, hp, hl, hs⟩ := ho A (hSA.same S0') rSA (by omega)
  refine ⟨_, by simp only [put_mk, Nat.reduceLT, ↓reduceIte] <;> rfl, hs, ?_⟩
  have low2 : Low F h h2 := low0.trans (hl.down (by show F ≤ F + 1; omega))
  have S2 := low2.same hw
  repeat' (first | with_reducible (first | refine r_seq ?_ | refine r_next ?_ | refine r_block ?_ | refine r_seq_exit ?_ | refine r_seq_ret ?_ | refine r_blk_n ?_ | refine r_blk_ret ?_ | refine r_blk_hit ?_ | refine r_blk_miss rfl ?_ | refine r_skip ?_ | refine r_exit ?_ | refine r_ret ?_ | refine r_rq_exit ?_ | refine r_rq_ret ?_) | ((with_reducible apply r_regA); (focus (exact sd2)); (focus (exact sd1))) | ((with_reducible refine r_reg (List.toList_toArray) ?_ ?_); focus (exact sd1)) | ((with_reducible apply (r_drawQ (js := [0, 1, 3, 4, 2, 5, 6, 7]))); (focus kernel_rfl); (focus kernel_rfl); (focus (exact sd1))) | ((with_reducible apply q_end); (focus (simp only [List.length_cons, List.length_nil, Nat.add_assoc, Nat.reduceAdd, Nat.zero_add] <;> rfl))) | ((with_reducible apply q_any); (focus rfl); (iterate 2 (focus (simp only [↓reduceIte, clsOf, clsCall, Fr.ev, evs, Nat.reduceEqDiff, Nat.reduceSub, callTo_s, heavyCall, target, List.nil_append, List.append_nil, stepOp, stHeavy, T.get_n, T.set_n, T.set_e, Nat.reduceDiv, Nat.reduceMod, stepAny, wantedA_none] <;> rfl))); (focus (exact SameH.refl _))) | ((with_reducible apply r_drawL); (focus kernel_rfl); (focus kernel_rfl); (focus (exact sd1))) | ((with_reducible apply r_end); focus (exact sd4)) | ((with_reducible (first | apply r_move | apply r_assign)); (focus (exact sd3)); (focus (exact sd7))) | ((with_reducible apply r_condT); (focus (exact sd3))) | ((with_reducible apply r_gT); (focus (exact sd5)); (focus rfl); (focus (exact sd3))) | (with_reducible rw [ifQ_t]) | (with_reducible rw [ifQ_f]) | (with_reducible refine ifQ_intro ?_ ?_ <;> intro hb))
  refine q_callC (S := SD) (f := 23) (by rfl) (by first | rfl | (simp only [wantedA_none, Tget_set])) (by simp only [callOuts, callTo_s, target, evs, Fr.ev, Tget_set, T.get_n, Nat.reduceEqDiff, Nat.reduceDiv, Nat.reduceMod, Nat.reduceSub, ↓reduceIte, List.nil_append, List.append_nil]; exact kc_miss rfl) ?_ ?_
  · exact linesAQ (hSB.same S2) rSB (by omega)
  intro o ho
  obtain ⟨v2, h3, rfl, hp2, hl2, hs2⟩ := ho B (hSB.same S2) rSB (by omega)
  refine ⟨_, by simp only [put_mk, Nat.reduceLT, ↓reduceIte] <;> rfl, hs2, ?_⟩
  have low3 : Low F h h3 := low2.trans (hl2.down (by show F ≤ F + 1 + 3; omega))
  have S3 := low3.same hw
  have hp3 := hp.move (EqI.call (EqI.refl _ _ _) hl2 (Nat.le_refl _)) hs2
  have c2 : hget h3 (ky F 2) = some (mkRow [.int .i64 0, .int .i64 0, .int .i64 0] 0) := by
    rw [hl2.own (by show F < F + 1 + 3; omega) (by decide)]
    show hget h2 _ = _
    rw [hl.own (by show F < F + 1; omega) (by decide)]
    show hget (hset (hset (hset h (ky F 0) (mkRow [.int .i64 e1, sa, ra, .int .i64 p1] 0)) (ky F 1) (mkRow [.int .i64 e2, sb, rb, .int .i64 p2] 0)) (ky F 2) (mkRow [.int .i64 0, .int .i64 0, .int .i64 0] 0)) _ = _
    rw [hget_hset, if_pos rfl]
  repeat' (first | with_reducible (first | refine r_seq ?_ | refine r_next ?_ | refine r_block ?_ | refine r_seq_exit ?_ | refine r_seq_ret ?_ | refine r_blk_n ?_ | refine r_blk_ret ?_ | refine r_blk_hit ?_ | refine r_blk_miss rfl ?_ | refine r_skip ?_ | refine r_exit ?_ | refine r_ret ?_ | refine r_rq_exit ?_ | refine r_rq_ret ?_) | ((with_reducible apply r_regA); (focus (exact sd2)); (focus (exact sd1))) | ((with_reducible refine r_reg (List.toList_toArray) ?_ ?_); focus (exact sd1)) | ((with_reducible apply (r_drawQ (js := [0, 1, 3, 4, 2, 5, 6, 7]))); (focus kernel_rfl); (focus kernel_rfl); (focus (exact sd1))) | ((with_reducible apply q_end); (focus (simp only [List.length_cons, List.length_nil, Nat.reduceAdd, Nat.zero_add] <;> rfl))) | ((with_reducible apply q_any); (focus rfl); (iterate 2 (focus (simp only [↓reduceIte, clsOf, Fr.ev, put_mk, pureOp, Nat.reduceLT, Nat.reduceEqDiff, Nat.reduceSub, stepOp, stV_mk, T.get_n, T.set_n, T.set_e, Nat.reduceDiv, Nat.reduceMod, stepAny, wantedA_none, readSelf] <;> rfl))); (focus (exact SameH.refl _))) | ((with_reducible apply r_drawL); (focus kernel_rfl); (focus kernel_rfl); (focus (exact sd1))) | ((with_reducible apply r_end); focus (exact sd4)) | ((with_reducible (first | apply r_move | apply r_assign)); (focus (exact sd3)); (focus (exact sd7))) | ((with_reducible apply r_condT); (focus (exact sd3))) | ((with_reducible apply r_gT); (focus (exact sd5)); (focus rfl); (focus (exact sd3))) | ((with_reducible (first | apply r_any | apply r_cond)); focus (simp only [↓reduceIte, clsOf, Fr.ev, ofV, ofA, ofS, put_mk, pureOp, Nat.reduceLT, Nat.reduceEqDiff, Nat.reduceSub, stepOp, stV_mk, T.set_n, Nat.reduceDiv, Nat.reduceMod, stepAny, wantedA_none] <;> rfl)) | (with_reducible rw [ifQ_t]) | (with_reducible rw [ifQ_f]) | (with_reducible refine ifQ_intro ?_ ?_ <;> intro hb))
  have hnA : (lnL A).length ≤ 50001 := by
    have := lnR_len A
    unfold lnL; split
    · omega
    · rw [List.length_append]; simp; omega
  have hnB : (lnL B).length ≤ 50001 := by
    have := lnR_len B
    unfold lnL; split
    · omega
    · rw [List.length_append]; simp; omega
  obtain ⟨mn, hmn⟩ : ∃ mn, mn = min (lnL A).length (lnL B).length := ⟨_, rfl⟩
  have mm := fun (s : St) => (aMn_n (s := s) (k := .i64) (a := (lnL A).length) (b := (lnL B).length)).trans (by rw [← hmn])
  have lP := fun (h4 : Heap) => rLen1_PcI (h2 := h4) (P := Tryz.prog) (t := 65) Tryz.underlying65 hp3
  have lP2 := fun (h4 : Heap) => rLen1_PcI (h2 := h4) (P := Tryz.prog) (t := 65) Tryz.underlying65 hp2
  refine r_loop (I := fun nn fr s1 => ∃ lc tt i, fr = ⟨F, lc, 81, tt, [], .no⟩ ∧ s1 = ⟨h3, F + 1 + 3 + 3⟩ ∧ i ≤ mn ∧ nn = mn - i ∧ lc + nn * 1000 ≤ 100000000000000000000000000 ∧ (∀ j : Nat, j < i → (lnL A)[j]? = (lnL B)[j]?) ∧ tt.get 4 = some (.ptr (ky F 2) 0) ∧ tt.get 8 = some v ∧ tt.get 9 = some v2 ∧ tt.get 10 = some (.int .i64 (i : Int))) (n := mn) ?_ ?_ ?_
  · omega
  · exact ⟨_, _, 0, rfl, rfl, Nat.zero_le _, (Nat.sub_zero _).symm, by omega, fun j hj => absurd hj (Nat.not_lt_zero _), (by first | (simp only [T.get_n, Nat.reduceEqDiff, Nat.reduceDiv, Nat.reduceMod, Nat.reduceSub, ↓reduceIte] <;> rfl) | rfl), (by first | (simp only [T.get_n, Nat.reduceEqDiff, Nat.reduceDiv, Nat.reduceMod, Nat.reduceSub, ↓reduceIte] <;> rfl) | rfl), (by first | (simp only [T.get_n, Nat.reduceEqDiff, Nat.reduceDiv, Nat.reduceMod, Nat.reduceSub, ↓reduceIte] <;> rfl) | rfl), (by first | (simp only [T.get_n, Nat.reduceEqDiff, Nat.reduceDiv, Nat.reduceMod, Nat.reduceSub, ↓reduceIte] <;> rfl) | rfl)⟩
  rintro nn fr s1 ⟨lc, tt, i, rfl, rfl, hi, rfl, hlc, hI, u4, u8, u9, u10⟩
  by_cases hil : i < mn
  · have hiA : i < (lnL A).length := by omega
    have hiB : i < (lnL B).length := by omega
    obtain ⟨t, ht⟩ : ∃ t, (lnL A)[i]? = some t := ⟨(lnL A)[i], by simp⟩
    obtain ⟨u, hu⟩ : ∃ t, (lnL B)[i]? = some t := ⟨(lnL B)[i], by simp⟩
    obtain ⟨b, o, eo, cap, x, ev, _, _, hr, hx⟩ := hp3.at ht
    obtain ⟨b2, o2, eo2, cap2, y, ev2, _, _, hr2, hy⟩ := hp2.at hu
    rw [ev] at u8
    rw [ev2] at u9
    by_cases htu : t = u
    · have hdd := dec_t htu
      repeat' (first | with_reducible (first | refine r_seq ?_ | refine r_next ?_ | refine r_block ?_ | refine r_seq_exit ?_ | refine r_seq_ret ?_ | refine r_blk_n ?_ | refine r_blk_ret ?_ | refine r_blk_hit ?_ | refine r_blk_miss rfl ?_ | refine r_skip ?_ | refine r_exit ?_ | refine r_ret ?_ | refine r_rq_exit ?_ | refine r_rq_ret ?_) | ((with_reducible apply r_regA); (focus (exact sd2)); (focus (exact sd1))) | ((with_reducible refine r_reg (List.toList_toArray) ?_ ?_); focus (exact sd1)) | ((with_reducible apply (r_drawW (js := [0, 1, 2, 3, 4, 5, 6, 7, 8, 9, 10, 11, 12, 13, 14, 15, 16, 17]))); (focus kernel_rfl); (focus kernel_rfl); (focus (exact sd1))) | ((with_reducible apply d_end); (focus (simp only [List.length_cons, List.length_nil, Nat.reduceAdd, Nat.zero_add] <;> rfl))) | ((with_reducible apply d_any); (focus rfl); (iterate 2 (focus (simp only [↓reduceIte, wantedA_eq, gBool_t, clsOf, clsCall, Fr.ev, evs, put_mk, pureOp, readOp, rLd, oneCell_one, pBin, binA, intOp_lss, pPick, List.getElem?_cons_zero, List.getElem?_cons_succ, Nat.reduceLT, Nat.reduceEqDiff, loadA_w, loadW_s, callTo_s, heavyCall, target, List.nil_append, List.append_nil, binA, stepOp, stHeavy, stV_mk, stO_mk, sz22, ag22, Tryz.underlying65, stepAny, wantedA_none, readSelf, av_int, rCall, rLen, rLen1_sl, lenA, Tget_set, u8, u9, u10, mm, lt_t hil, pIA_s Tryz.underlying65 sz22 hiA, pIA_s Tryz.underlying65 sz22 hiB, hr, hr2, k_beq hx hy, hdd, sameT, aBuiltin, av_self_B hx, av_self_B hy] <;> rfl))); (focus (first | exact SameH.refl _ | (simp only [sameT, sameS hw]; done)))) | ((with_reducible apply r_drawL); (focus kernel_rfl); (focus kernel_rfl); (focus (exact sd1))) | ((with_reducible apply r_end); focus (exact sd4)) | ((with_reducible (first | apply r_move | apply r_assign)); (focus (simp only [Tget_set, Nat.reduceEqDiff, ↓reduceIte, u10] <;> rfl)); (focus (exact sd7))) | ((with_reducible apply r_condT); (focus (exact sd3))) | ((with_reducible apply r_gT); (focus (exact sd5)); (focus rfl); (focus (exact sd3))) | ((with_reducible (first | apply r_any | apply r_cond)); focus (simp only [↓reduceIte, clsOf, Fr.ev, ofV, ofA, ofS, put_mk, pureOp, pBin, binA, Nat.reduceLT, binA, stepOp, stV_mk, stepAny, wantedA_none, Tget_set, intOp_add (show inR ((i : Int) + 1) by unfold inR; omega)] <;> rfl)) | (with_reducible rw [ifQ_t]) | (with_reducible rw [ifQ_f]) | (with_reducible refine ifQ_intro ?_ ?_ <;> intro hb))
      refine r_rq_n (k := mn - (i + 1)) (by omega) ⟨_, _, i + 1, rfl, rfl, by omega, rfl, by omega, fun j hj => ?_, (by first | (simp only [Tget_set, Nat.reduceEqDiff, ↓reduceIte, u4] <;> rfl) | rfl), (by first | (simp only [Tget_set, Nat.reduceEqDiff, ↓reduceIte, u8, ev] <;> rfl) | rfl), (by first | (simp only [Tget_set, Nat.reduceEqDiff, ↓reduceIte, u9, ev2] <;> rfl) | rfl), (by first | (simp only [Tget_set, ↓reduceIte] <;> rfl) | rfl)⟩
      by_cases hji : j < i
      · exact hI j hji
      · obtain rfl : j = i := by omega
        rw [ht, hu, htu]
    · have hdd := dec_f htu
      repeat' (first | with_reducible (first | refine r_seq ?_ | refine r_next ?_ | refine r_block ?_ | refine r_seq_exit ?_ | refine r_seq_ret ?_ | refine r_blk_n ?_ | refine r_blk_ret ?_ | refine r_blk_hit ?_ | refine r_blk_miss rfl ?_ | refine r_skip ?_ | refine r_exit ?_ | refine r_ret ?_ | refine r_rq_exit ?_ | refine r_rq_ret ?_) | ((with_reducible apply r_regA); (focus (exact sd2)); (focus (exact sd1))) | ((with_reducible refine r_reg (List.toList_toArray) ?_ ?_); focus (exact sd1)) | ((with_reducible apply (r_drawW (js := [0, 1, 2, 3, 4, 5, 6, 7, 8, 9, 10, 11, 12, 13, 14, 15, 16, 17]))); (focus kernel_rfl); (focus kernel_rfl); (focus (exact sd1))) | ((with_reducible apply d_end); (focus (simp only [List.length_cons, List.length_nil, Nat.reduceAdd, Nat.zero_add] <;> rfl))) | ((with_reducible apply d_any); (focus rfl); (iterate 2 (focus (simp only [↓reduceIte, wantedA_eq, gBool_t, clsOf, clsCall, Fr.ev, evs, put_mk, pureOp, readOp, rLd, oneCell_one, pBin, binA, intOp_lss, pPick, List.getElem?_cons_zero, List.getElem?_cons_succ, Nat.reduceLT, Nat.reduceEqDiff, loadA_w, loadW_s, callTo_s, heavyCall, target, List.nil_append, List.append_nil, binA, stepOp, stHeavy, stV_mk, stO_mk, sz22, ag22, Tryz.underlying65, stepAny, wantedA_none, readSelf, av_int, rCall, rLen, rLen1_sl, lenA, Tget_set, u8, u9, u10, mm, lt_t hil, pIA_s Tryz.underlying65 sz22 hiA, pIA_s Tryz.underlying65 sz22 hiB, hr, hr2, k_beq hx hy, hdd, sameT, aBuiltin, av_self_B hx, av_self_B hy] <;> rfl))); (focus (first | exact SameH.refl _ | (simp only [sameT, sameS hw]; done)))) | ((with_reducible apply r_drawL); (focus kernel_rfl); (focus kernel_rfl); (focus (exact sd1))) | ((with_reducible apply r_end); focus (exact sd4)) | ((with_reducible (first | apply r_move | apply r_assign)); (focus (simp only [Tget_set, Nat.reduceEqDiff, ↓reduceIte, u10] <;> rfl)); (focus (exact sd7))) | ((with_reducible apply r_condT); (focus (exact sd3))) | ((with_reducible apply r_gT); (focus (exact sd5)); (focus rfl); (focus (exact sd3))) | ((with_reducible (first | apply r_any | apply r_cond)); focus (simp only [↓reduceIte, clsOf, Fr.ev, evParts, ofV, ofA, ofS, AV.cells, put_mk, put_none, pureOp, someAgg_s, List.length_cons, List.length_nil, List.getElem?_cons_zero, List.getElem?_cons_succ, Nat.zero_add, Nat.reduceAdd, Nat.reduceLT, Nat.reduceLeDiff, Nat.reduceEqDiff, and_self, aSt_w, stOut_s, wrAB_row, ovr, List.set_cons_zero, List.set_cons_succ, allCell, ic_i, actOp, pBuild, pBuild2, fieldsOk, buildParts, stepOp, stHeavy, stV_mk, stO_mk, sz2, sz3, sz31, zr31, Tryz.underlying31, stepAny, wantedA_none, Tget_set, u4, c2, listC_eq, fill3_0, fill3_2, b31, b33, List.length_cons, List.length_nil, Nat.reduceAdd, someAgg_s] <;> rfl)) | (with_reducible rw [ifQ_t]) | (with_reducible rw [ifQ_f]) | (with_reducible refine ifQ_intro ?_ ?_ <;> intro hb))
      subst hQ
      refine ret_back (by simp only [Tryz.results6, resultOf, resultsA, resultA, List.toList_toArray, Fr.ev, Tget_set, Nat.reduceEqDiff, ↓reduceIte, loadA_w, loadW_a, rdAB_row, hget_same, someAgg_s, List.length_cons, List.length_nil, Nat.reduceLeDiff, Nat.reduceAdd, Nat.zero_add, List.drop_zero, List.take_succ_cons, List.take_zero, u4, ag31, sz31] <;> rfl) ?_
      have e1 : fd (lnL A) (lnL B) = i := fd_is i _ _ (by omega) (by omega) hI (.inr (.inr (by rw [ht, hu]; intro e; exact htu (by simpa using e))))
      exact ⟨_, out_eq (by rw [difV_D hE h0 hAB, e1]; rfl), SameH.hset hw S3 (ky_le _ _)⟩
  · have hend : i = mn := by omega
    have e1 : fd (lnL A) (lnL B) = i := fd_is i _ _ (by omega) (by omega) hI (by omega)
    repeat' (first | with_reducible (first | refine r_seq ?_ | refine r_next ?_ | refine r_block ?_ | refine r_seq_exit ?_ | refine r_seq_ret ?_ | refine r_blk_n ?_ | refine r_blk_ret ?_ | refine r_blk_hit ?_ | refine r_blk_miss rfl ?_ | refine r_skip ?_ | refine r_exit ?_ | refine r_ret ?_ | refine r_rq_exit ?_ | refine r_rq_ret ?_) | ((with_reducible apply r_regA); (focus (exact sd2)); (focus (exact sd1))) | ((with_reducible refine r_reg (List.toList_toArray) ?_ ?_); focus (exact sd1)) | ((with_reducible apply (r_drawW (js := [0, 1, 2, 3, 4, 5, 6, 7, 8, 9, 10, 11, 12, 13, 14, 15, 16, 17]))); (focus kernel_rfl); (focus kernel_rfl); (focus (exact sd1))) | ((with_reducible apply d_end); (focus (simp only [List.length_cons, List.length_nil, Nat.reduceAdd, Nat.zero_add] <;> rfl))) | ((with_reducible apply d_any); (focus rfl); (iterate 2 (focus (simp only [↓reduceIte, wantedA_eq, gBool_t, clsOf, clsCall, Fr.ev, evs, ofV, ofA, ofS, put_mk, pureOp, readOp, pBin, binA, intOp_lss, pPick, List.getElem?_cons_zero, List.getElem?_cons_succ, Nat.reduceLT, Nat.reduceEqDiff, heavyCall, binA, stepOp, stHeavy, stV_mk, stO_mk, stepAny, wantedA_none, readSelf, av_int, rCall, rLen, Tget_set, u8, u9, u10, lP, lP2, mm, lt_f hil, aBuiltin] <;> rfl))); (focus (first | exact SameH.refl _ | (simp only [sameT, sameS hw]; done)))) | ((with_reducible apply r_drawL); (focus kernel_rfl); (focus kernel_rfl); (focus (exact sd1))) | ((with_reducible apply r_end); focus (exact sd4)) | ((with_reducible (first | apply r_move | apply r_assign)); (focus (simp only [Tget_set, Nat.reduceEqDiff, ↓reduceIte, u10] <;> rfl)); (focus (exact sd7))) | ((with_reducible apply r_condT); (focus (exact sd3))) | ((with_reducible apply r_gT); (focus (exact sd5)); (focus rfl); (focus (exact sd3))) | ((with_reducible (first | apply r_any | apply r_cond)); focus (simp only [↓reduceIte, clsOf, Fr.ev, evParts, ofV, ofA, ofS, AV.cells, put_mk, put_none, pureOp, someAgg_s, List.length_cons, List.length_nil, List.getElem?_cons_zero, List.getElem?_cons_succ, Nat.zero_add, Nat.reduceAdd, Nat.reduceLT, Nat.reduceLeDiff, Nat.reduceEqDiff, and_self, aSt_w, stOut_s, wrAB_row, ovr, List.set_cons_zero, List.set_cons_succ, allCell, ic_i, actOp, pBuild, pBuild2, fieldsOk, buildParts, stepOp, stHeavy, stV_mk, stO_mk, sz2, sz3, sz31, zr31, Tryz.underlying31, stepAny, wantedA_none, Tget_set, u4, c2, listC_eq, fill3_0, fill3_2, b31, b33, List.length_cons, List.length_nil, Nat.reduceAdd, someAgg_s] <;> rfl)) | (with_reducible rw [ifQ_t]) | (with_reducible rw [ifQ_f]) | (with_reducible refine ifQ_intro ?_ ?_ <;> intro hb))
    subst hQ
    refine ret_back (by simp only [Tryz.results6, resultOf, resultsA, resultA, List.toList_toArray, Fr.ev, Tget_set, Nat.reduceEqDiff, ↓reduceIte, loadA_w, loadW_a, rdAB_row, hget_same, someAgg_s, List.length_cons, List.length_nil, Nat.reduceLeDiff, Nat.reduceAdd, Nat.zero_add, List.drop_zero, List.take_succ_cons, List.take_zero, u4, ag31, sz31] <;> rfl) ?_
    exact ⟨_, out_eq (by rw [difV_D hE h0 hAB, e1]; rfl), SameH.hset hw S3 (ky_le _ _)⟩

end Go.Proofs.YtfhgiadogeephaaGreatDoor

namespace Go.Proofs.YtfhgiadogeephaaGreatDoor
open Go Go.Ai
set_option maxRecDepth 100000
set_option maxHeartbeats 16000000 in
theorem differA (h : Heap) (F : Nat) (e1 e2 p1 p2 : Int) (sa sb ra rb : AV) (A B : Tx) (X X2 : List (List AV)) (Y Y2 : List (List (List AV))) (hSA : BytP h sa A) (hSB : BytP h sb B) (rSA : RoomA sa) (rSB : RoomA sb) (lSA : A.length ≤ 50000) (lSB : B.length ≤ 50000) (hRA : RowN h ksR 4 ksV ra X Y) (hRB : RowN h ksR 4 ksV rb X2 Y2) (rRA : RoomA ra) (rRB : RoomA rb) : Snd Tryz.prog GL 6 [.agg [.int .i64 e1, sa, ra, .int .i64 p1], .agg [.int .i64 e2, sb, rb, .int .i64 p2]] ⟨h, F⟩ [.val (difA (difV e1 e2 A B X X2 Y Y2)) ⟨h, F⟩] := by
  by_cases hD : e1 = e2 ∧ ¬ 0 ≤ firstI X X2 Y Y2 ∧ ¬ A = B
  · exact differA_D h F e1 e2 p1 p2 sa sb ra rb A B X X2 Y Y2 hSA hSB rSA rSB lSA lSB hRA hRB rRA rRB hD.1 hD.2.1 hD.2.2
  refine snd_val (by simp [Kin, Kins, difA]) fun hw => ?_
  have mxl : maxLen = 9223372036854775807 := by decide
  have lA := fun (h2 : Heap) => rLen1_L (h2 := h2) Tryz.underlying23 hRA.1
  have lB := fun (h2 : Heap) => rLen1_L (h2 := h2) Tryz.underlying23 hRB.1
  have hlA := hRA.1.len
  have hlB := hRB.1.len
  by_cases hE : e1 = e2
  rotate_left
  · have n1 : (e1 != e2) = true := by simpa using hE
    refine sndQ_body (K := (KT S0)) kt_ok mixed noNum (m := 0) Tryz.func6 ?_
    generalize hQ : retQ _ _ _ _ _ _ = Q0
    refine body_go (c := Tryz.f6.body.getD .skip) (n := 81) rfl rfl (by simp only [↓reduceIte, T.setList, T.set_e, T.set_n, Nat.reduceDiv, Nat.reduceMod, Nat.reduceEqDiff, Nat.zero_add] <;> rfl) ?_
    simp only [Tryz.f6, Option.getD_some]
    repeat' (first | with_reducible (first | refine r_seq ?_ | refine r_next ?_ | refine r_block ?_ | refine r_seq_exit ?_ | refine r_seq_ret ?_ | refine r_blk_n ?_ | refine r_blk_ret ?_ | refine r_blk_hit ?_ | refine r_blk_miss rfl ?_ | refine r_skip ?_ | refine r_exit ?_ | refine r_ret ?_ | refine r_rq_exit ?_ | refine r_rq_ret ?_) | ((with_reducible apply r_regA); (focus (exact sd2)); (focus (exact sd1))) | ((with_reducible refine r_reg (List.toList_toArray) ?_ ?_); focus (exact sd1)) | ((with_reducible apply r_drawL); (focus kernel_rfl); (focus kernel_rfl); (focus (exact sd1))) | ((with_reducible apply r_end); focus (exact sd4)) | ((with_reducible (first | apply r_move | apply r_assign)); (focus (exact sd3)); (focus (exact sd7))) | ((with_reducible apply r_condT); (focus (exact sd3))) | ((with_reducible (first | apply r_any | apply r_cond)); focus (simp only [↓reduceIte, clsOf, clsCall, newBlk, allocOp, Fr.ev, evs, evParts, ofV, ofA, ofS, nVar, AV.cells, rowOf_mk, put_mk, put_none, upd_mk, keyOf_mk, ky_inj, pureOp, readOp, pFA, pFA1, pFA2, rLd, rdAB_row, oneCell_one, hget_same, hget_hset_ite, pBin, binA, intOp_neq, List.length_cons, List.length_nil, List.getElem?_cons_zero, List.getElem?_cons_succ, List.drop_zero, List.take_succ_cons, List.take_zero, Nat.zero_add, Nat.add_zero, Nat.reduceAdd, Nat.reduceLT, Nat.reduceLeDiff, Nat.reduceEqDiff, Nat.reduceSub, and_self, Nat.add_eq, loadA_w, loadW_s, aSt_w, stOut_s, wrAB_row, ovr, List.set_cons_zero, List.set_cons_succ, allCell, ic_i, heavyCall, actOp, pBuild, pBuild2, fieldsOk, buildParts, binA, stepOp, stHeavy, stV_mk, stB_mk, stO_mk, T.get_n, T.set_n, T.set_e, Nat.reduceDiv, Nat.reduceMod, sz2, ag2, sz3, Tryz.underlying25, sz31, zr31, tg31, Tryz.underlying31, stepAny, wantedA_none, n1, intOp_neq, aMn_m, aBuiltin] <;> rfl)) | (with_reducible rw [ifQ_t]) | (with_reducible rw [ifQ_f]) | (with_reducible refine ifQ_intro ?_ ?_ <;> intro hb))
    subst hQ
    refine ret_back (by simp only [Tryz.results6, resultOf, resultsA, resultA, List.toList_toArray, Fr.ev, T.get_n, Nat.reduceDiv, Nat.reduceMod, Nat.reduceSub, Nat.reduceEqDiff, ↓reduceIte, loadA_w, hget_same] <;> rfl) ?_
    exact ⟨_, by rw [difV_A hE]; rfl, by repeat (first | exact Same.base _ _ _ | refine Same.hset hw ?_ (ky_le _ _))⟩
  have n1 : (e1 != e2) = false := by simpa using hE
  have kf := fun (S : FuncId → List AV → St → Out → Prop) (h1 : Heap) (hs : SameH h h1) => k_first (S := S) (F := F + 1) hRA hRB rRA rRB hs
  by_cases h0 : 0 ≤ firstI X X2 Y Y2
  · obtain ⟨hf, hcase⟩ := firstI_pos h0
    have hfl := fstR_le (X := X) (X2 := X2) hRA.len hRB.len
    simp only [hf] at kf
    obtain ⟨k, hk⟩ : ∃ k, k = fstR X X2 Y Y2 := ⟨_, rfl⟩
    have hdv := difV_B (A := A) (B := B) hE h0
    rw [← hk] at kf hfl hcase hdv
    have mm := fun (s : St) => aMn_n (s := s) (k := .i64) (a := X.length) (b := X2.length)
    by_cases hkm : k < min X.length X2.length
    · obtain ⟨b, o, eo, cap, rfl, hb, hr⟩ := res_seq hw hRA (show k < X.length by omega)
      refine sndQ_body (K := (KT S0)) kt_ok mixed noNum (m := 0) Tryz.func6 ?_
      generalize hQ : retQ _ _ _ _ _ _ = Q0
      refine body_go (c := Tryz.f6.body.getD .skip) (n := 81) rfl rfl (by simp only [↓reduceIte, T.setList, T.set_e, T.set_n, Nat.reduceDiv, Nat.reduceMod, Nat.reduceEqDiff, Nat.zero_add] <;> rfl) ?_
      simp only [Tryz.f6, Option.getD_some]
      repeat' (first | with_reducible (first | refine r_seq ?_ | refine r_next ?_ | refine r_block ?_ | refine r_seq_exit ?_ | refine r_seq_ret ?_ | refine r_blk_n ?_ | refine r_blk_ret ?_ | refine r_blk_hit ?_ | refine r_blk_miss rfl ?_ | refine r_skip ?_ | refine r_exit ?_ | refine r_ret ?_ | refine r_rq_exit ?_ | refine r_rq_ret ?_) | ((with_reducible apply r_regA); (focus (exact sd2)); (focus (exact sd1))) | ((with_reducible refine r_reg (List.toList_toArray) ?_ ?_); focus (exact sd1)) | ((with_reducible apply r_drawL); (focus kernel_rfl); (focus kernel_rfl); (focus (exact sd1))) | ((with_reducible apply r_end); focus (exact sd4)) | ((with_reducible (first | apply r_move | apply r_assign)); (focus (exact sd3)); (focus (exact sd7))) | ((with_reducible apply r_condT); (focus (exact sd3))) | ((with_reducible (first | apply r_any | apply r_cond)); focus (simp only [↓reduceIte, clsOf, clsCall, newBlk, allocOp, Fr.ev, evs, evParts, ofV, ofA, ofS, nVar, AV.cells, rowOf_mk, put_mk, put_none, upd_mk, keyOf_mk, ky_inj, pureOp, readOp, pFA, pFA1, pFA2, rLd, rdAB_row, oneCell_one, hget_same, hget_hset_ite, pBin, binA, intOp_neq, intOp_lss, intOp_geq, List.length_cons, List.length_nil, List.getElem?_cons_zero, List.getElem?_cons_succ, List.drop_zero, List.drop_succ_cons, List.take_succ_cons, List.take_zero, Nat.zero_add, Nat.add_zero, Nat.reduceAdd, Nat.reduceLT, Nat.reduceLeDiff, Nat.reduceEqDiff, Nat.reduceSub, and_self, Nat.add_eq, loadA_w, loadW_s, aSt_w, stOut_s, wrAB_row, ovr, List.set_cons_zero, List.set_cons_succ, allCell, ic_i, callTo_s, heavyCall, target, actOp, List.nil_append, List.append_nil, pBuild, pBuild2, fieldsOk, buildParts, binA, stepOp, stHeavy, stV_mk, stB_mk, stO_mk, T.get_n, T.set_n, T.set_e, Nat.reduceDiv, Nat.reduceMod, sz2, ag2, sz3, sz23, ag23, Tryz.underlying25, Tryz.underlying28, sz31, zr31, tg31, Tryz.underlying31, stepAny, wantedA_none, rCall, rLen, n1, intOp_neq, kf S0 _, sameS hw, sameT, ge_t (show (0 : Int) ≤ (k : Int) by omega), lA, lB, mm, lt_t hkm, pIA_s Tryz.underlying23 sz28 (show k < X.length by omega), hr, ky_old hb, aBuiltin] <;> rfl)) | (with_reducible rw [ifQ_t]) | (with_reducible rw [ifQ_f]) | (with_reducible refine ifQ_intro ?_ ?_ <;> intro hb))
      subst hQ
      refine ret_back (by simp only [Tryz.results6, resultOf, resultsA, resultA, List.toList_toArray, Fr.ev, T.get_n, Nat.reduceDiv, Nat.reduceMod, Nat.reduceSub, Nat.reduceEqDiff, ↓reduceIte, loadA_w, hget_same] <;> rfl) ?_
      exact ⟨_, by rw [hdv]; unfold seqI; rw [if_pos hkm]; rfl, by repeat (first | exact Same.base _ _ _ | refine Same.hset hw ?_ (ky_le _ _))⟩
    · refine sndQ_body (K := (KT S0)) kt_ok mixed noNum (m := 0) Tryz.func6 ?_
      generalize hQ : retQ _ _ _ _ _ _ = Q0
      refine body_go (c := Tryz.f6.body.getD .skip) (n := 81) rfl rfl (by simp only [↓reduceIte, T.setList, T.set_e, T.set_n, Nat.reduceDiv, Nat.reduceMod, Nat.reduceEqDiff, Nat.zero_add] <;> rfl) ?_
      simp only [Tryz.f6, Option.getD_some]
      repeat' (first | with_reducible (first | refine r_seq ?_ | refine r_next ?_ | refine r_block ?_ | refine r_seq_exit ?_ | refine r_seq_ret ?_ | refine r_blk_n ?_ | refine r_blk_ret ?_ | refine r_blk_hit ?_ | refine r_blk_miss rfl ?_ | refine r_skip ?_ | refine r_exit ?_ | refine r_ret ?_ | refine r_rq_exit ?_ | refine r_rq_ret ?_) | ((with_reducible apply r_regA); (focus (exact sd2)); (focus (exact sd1))) | ((with_reducible refine r_reg (List.toList_toArray) ?_ ?_); focus (exact sd1)) | ((with_reducible apply r_drawL); (focus kernel_rfl); (focus kernel_rfl); (focus (exact sd1))) | ((with_reducible apply r_end); focus (exact sd4)) | ((with_reducible (first | apply r_move | apply r_assign)); (focus (exact sd3)); (focus (exact sd7))) | ((with_reducible apply r_condT); (focus (exact sd3))) | ((with_reducible (first | apply r_any | apply r_cond)); focus (simp only [↓reduceIte, clsOf, clsCall, newBlk, allocOp, Fr.ev, evs, evParts, ofV, ofA, ofS, nVar, AV.cells, rowOf_mk, put_mk, put_none, upd_mk, keyOf_mk, ky_inj, pureOp, readOp, pFA, pFA1, pFA2, rLd, rdAB_row, oneCell_one, hget_same, hget_hset_ite, pBin, binA, intOp_neq, intOp_lss, intOp_geq, List.length_cons, List.length_nil, List.getElem?_cons_zero, List.getElem?_cons_succ, List.drop_zero, List.drop_succ_cons, List.take_succ_cons, List.take_zero, Nat.zero_add, Nat.add_zero, Nat.reduceAdd, Nat.reduceLT, Nat.reduceLeDiff, Nat.reduceEqDiff, Nat.reduceSub, and_self, Nat.add_eq, loadA_w, loadW_s, aSt_w, stOut_s, wrAB_row, ovr, List.set_cons_zero, List.set_cons_succ, allCell, ic_i, callTo_s, heavyCall, target, actOp, List.nil_append, List.append_nil, pBuild, pBuild2, fieldsOk, buildParts, binA, stepOp, stHeavy, stV_mk, stB_mk, stO_mk, T.get_n, T.set_n, T.set_e, Nat.reduceDiv, Nat.reduceMod, sz2, ag2, sz3, sz23, ag23, Tryz.underlying25, sz31, zr31, tg31, Tryz.underlying31, stepAny, wantedA_none, rCall, rLen, n1, intOp_neq, kf S0 _, sameS hw, sameT, ge_t (show (0 : Int) ≤ (k : Int) by omega), lA, lB, mm, lt_f hkm, aBuiltin] <;> rfl)) | (with_reducible rw [ifQ_t]) | (with_reducible rw [ifQ_f]) | (with_reducible refine ifQ_intro ?_ ?_ <;> intro hb))
      subst hQ
      refine ret_back (by simp only [Tryz.results6, resultOf, resultsA, resultA, List.toList_toArray, Fr.ev, T.get_n, Nat.reduceDiv, Nat.reduceMod, Nat.reduceSub, Nat.reduceEqDiff, ↓reduceIte, loadA_w, hget_same] <;> rfl) ?_
      exact ⟨_, by rw [hdv]; unfold seqI; rw [if_neg hkm]; rfl, by repeat (first | exact Same.base _ _ _ | refine Same.hset hw ?_ (ky_le _ _))⟩
  by_cases hAB : A = B
  · have hd := dec_t hAB
    refine sndQ_body (K := (KT S0)) kt_ok mixed noNum (m := 0) Tryz.func6 ?_
    generalize hQ : retQ _ _ _ _ _ _ = Q0
    refine body_go (c := Tryz.f6.body.getD .skip) (n := 81) rfl rfl (by simp only [↓reduceIte, T.setList, T.set_e, T.set_n, Nat.reduceDiv, Nat.reduceMod, Nat.reduceEqDiff, Nat.zero_add] <;> rfl) ?_
    simp only [Tryz.f6, Option.getD_some]
    repeat' (first | with_reducible (first | refine r_seq ?_ | refine r_next ?_ | refine r_block ?_ | refine r_seq_exit ?_ | refine r_seq_ret ?_ | refine r_blk_n ?_ | refine r_blk_ret ?_ | refine r_blk_hit ?_ | refine r_blk_miss rfl ?_ | refine r_skip ?_ | refine r_exit ?_ | refine r_ret ?_ | refine r_rq_exit ?_ | refine r_rq_ret ?_) | ((with_reducible apply r_regA); (focus (exact sd2)); (focus (exact sd1))) | ((with_reducible refine r_reg (List.toList_toArray) ?_ ?_); focus (exact sd1)) | ((with_reducible apply r_drawL); (focus kernel_rfl); (focus kernel_rfl); (focus (exact sd1))) | ((with_reducible apply r_end); focus (exact sd4)) | ((with_reducible (first | apply r_move | apply r_assign)); (focus (exact sd3)); (focus (exact sd7))) | ((with_reducible apply r_condT); (focus (exact sd3))) | ((with_reducible (first | apply r_any | apply r_cond)); focus (simp only [↓reduceIte, clsOf, clsCall, newBlk, allocOp, Fr.ev, evs, evParts, ofV, ofA, ofS, nVar, AV.cells, rowOf_mk, put_mk, put_none, upd_mk, keyOf_mk, ky_inj, pureOp, readOp, pFA, pFA1, pFA2, rLd, rdAB_row, oneCell_one, someAgg_s, hget_same, hget_hset_ite, pBin, binA, intOp_neq, intOp_geq, List.length_cons, List.length_nil, List.getElem?_cons_zero, List.getElem?_cons_succ, List.drop_zero, List.drop_succ_cons, List.take_succ_cons, List.take_zero, Nat.zero_add, Nat.add_zero, Nat.reduceAdd, Nat.reduceLT, Nat.reduceLeDiff, Nat.reduceEqDiff, Nat.reduceSub, and_self, Nat.add_eq, loadA_w, loadW_s, aSt_w, stOut_s, wrAB_row, ovr, List.set_cons_zero, List.set_cons_succ, allCell, ic_i, callTo_s, heavyCall, target, actOp, List.nil_append, List.append_nil, pBuild, pBuild2, fieldsOk, buildParts, binA, stepOp, stHeavy, stV_mk, stB_mk, stO_mk, T.get_n, T.set_n, T.set_e, Nat.reduceDiv, Nat.reduceMod, sz2, ag2, sz3, sz22, ag22, sz23, ag23, Tryz.underlying25, sz31, zr31, tg31, Tryz.underlying31, stepAny, wantedA_none, n1, intOp_neq, kf S0 _, sameS hw, sameT, ge_f h0, k_beq hSA hSB, hd] <;> rfl)) | (with_reducible rw [ifQ_t]) | (with_reducible rw [ifQ_f]) | (with_reducible refine ifQ_intro ?_ ?_ <;> intro hb))
    subst hQ
    refine ret_back (by simp only [Tryz.results6, resultOf, resultsA, resultA, List.toList_toArray, Fr.ev, T.get_n, Nat.reduceDiv, Nat.reduceMod, Nat.reduceSub, Nat.reduceEqDiff, ↓reduceIte, loadA_w, hget_same] <;> rfl) ?_
    exact ⟨_, by rw [difV_C hE h0 hAB]; rfl, by repeat (first | exact Same.base _ _ _ | refine Same.hset hw ?_ (ky_le _ _))⟩
  exact absurd ⟨hE, h0, hAB⟩ hD
section
variable {S : FuncId → List AV → St → Out → Prop}
theorem k_differA {h h1 : Heap} {F : Nat} {e1 e2 p1 p2 : Int} {sa sb ra rb : AV} {A B : Tx} {X X2 : List (List AV)} {Y Y2 : List (List (List AV))} (hSA : BytP h sa A) (hSB : BytP h sb B) (rSA : RoomA sa) (rSB : RoomA sb) (lSA : A.length ≤ 50000) (lSB : B.length ≤ 50000) (hRA : RowN h ksR 4 ksV ra X Y) (hRB : RowN h ksR 4 ksV rb X2 Y2) (rRA : RoomA ra) (rRB : RoomA rb) (hs : SameH h h1) : CallF.fn (KT S) 6 [.agg [.int .i64 e1, sa, ra, .int .i64 p1], .agg [.int .i64 e2, sb, rb, .int .i64 p2]] ⟨h1, F⟩ = some [.val (difA (difV e1 e2 A B X X2 Y Y2)) ⟨h1, F⟩] :=
  kt_fn ((rfl : _ = spDf [.agg [.int .i64 e1, sa, ra, .int .i64 p1], .agg [.int .i64 e2, sb, rb, .int .i64 p2]] ⟨h1, F⟩).trans (by simp only [spDf, bytO_same hSA hs, bytO_same hSB hs, rowsOf_same hRA hs, rowsOf_same hRB hs])) (differA h1 F e1 e2 p1 p2 sa sb ra rb A B X X2 Y Y2 (hSA.same hs) (hSB.same hs) rSA rSB lSA lSB (hRA.same hs) (hRB.same hs) rRA rRB)
end

end Go.Proofs.YtfhgiadogeephaaGreatDoor

namespace Go.Proofs.YtfhgiadogeephaaGreatDoor
open Go Go.Ai
set_option maxRecDepth 100000
set_option maxHeartbeats 16000000 in
theorem differB1 (h : Heap) (F : Nat) (e1 e2 p1 p2 : Int) (sa sb ra rb : AV) (A B : Tx) (X X2 : List (List AV)) (Y Y2 : List (List (List AV))) (hSA : BytP h sa A) (hSB : BytP h sb B) (rSA : RoomA sa) (rSB : RoomA sb) (lSA : A.length ≤ 50000) (lSB : B.length ≤ 50000) (hRA : RowN h ksR 4 ksV ra X Y) (hRB : RowN h ksR 4 ksV rb X2 Y2) (rRA : RoomA ra) (rRB : RoomA rb) (hlt : ¬ (e1 = e2 ∧ ¬ 0 ≤ firstI X X2 Y Y2)) : Snd Tryz.prog GL 7 [.agg [.int .i64 e1, sa, ra, .int .i64 p1], .agg [.int .i64 e2, sb, rb, .int .i64 p2]] ⟨h, F⟩ [.val (difA (difV e1 e2 A B X X2 Y Y2)) ⟨h, F⟩] := by
  refine snd_val (by simp [Kin, Kins, difA]) fun hw => ?_
  have mxl : maxLen = 9223372036854775807 := by decide
  have lA := fun (h2 : Heap) => rLen1_L (h2 := h2) Tryz.underlying23 hRA.1
  have lB := fun (h2 : Heap) => rLen1_L (h2 := h2) Tryz.underlying23 hRB.1
  have hlA := hRA.1.len
  have hlB := hRB.1.len
  have hyA := hRA.len
  have hyB := hRB.len
  by_cases hE : e1 = e2
  rotate_left
  · have n1 : (e1 != e2) = true := by simpa using hE
    by_cases hlt2 : e2 < e1
    · refine sndQ_body (K := (KT S0)) kt_ok mixed noNum (m := 0) Tryz.func7 ?_
      generalize hQ : retQ _ _ _ _ _ _ = Q0
      refine body_go (c := Tryz.f7.body.getD .skip) (n := 123) rfl rfl (by simp only [↓reduceIte, T.setList, T.set_e, T.set_n, Nat.reduceDiv, Nat.reduceMod, Nat.reduceEqDiff, Nat.zero_add] <;> rfl) ?_
      simp only [Tryz.f7, Option.getD_some]
      repeat' (first | with_reducible (first | refine r_seq ?_ | refine r_next ?_ | refine r_block ?_ | refine r_seq_exit ?_ | refine r_seq_ret ?_ | refine r_blk_n ?_ | refine r_blk_ret ?_ | refine r_blk_hit ?_ | refine r_blk_miss rfl ?_ | refine r_skip ?_ | refine r_exit ?_ | refine r_ret ?_ | refine r_rq_exit ?_ | refine r_rq_ret ?_) | ((with_reducible apply r_regA); (focus (exact sd2)); (focus (exact sd1))) | ((with_reducible refine r_reg (List.toList_toArray) ?_ ?_); focus (exact sd1)) | ((with_reducible apply r_drawL); (focus kernel_rfl); (focus kernel_rfl); (focus (exact sd1))) | ((with_reducible apply r_end); focus (exact sd4)) | ((with_reducible (first | apply r_move | apply r_assign)); (focus (exact sd3)); (focus (exact sd7))) | ((with_reducible apply r_condT); (focus (exact sd3))) | ((with_reducible apply r_gT); (focus (exact sd5)); (focus rfl); (focus (exact sd3))) | ((with_reducible (first | apply r_any | apply r_cond)); focus (simp only [↓reduceIte, clsOf, newBlk, allocOp, Fr.ev, evParts, ofV, ofA, ofS, nVar, AV.cells, rowOf_mk, put_mk, put_none, upd_mk, keyOf_mk, ky_inj, pureOp, readOp, pFA, pFA1, pFA2, rLd, rdAB_row, oneCell_one, hget_same, hget_hset_ite, pBin, binA, intOp_neq, intOp_lss, List.length_cons, List.length_nil, List.getElem?_cons_zero, List.getElem?_cons_succ, List.drop_zero, List.take_succ_cons, List.take_zero, Nat.zero_add, Nat.add_zero, Nat.reduceAdd, Nat.reduceLT, Nat.reduceLeDiff, Nat.reduceEqDiff, Nat.reduceSub, and_self, Nat.add_eq, loadA_w, loadW_s, aSt_w, stOut_s, wrAB_row, ovr, List.set_cons_zero, List.set_cons_succ, allCell, ic_i, actOp, pBuild, pBuild2, fieldsOk, buildParts, binA, stepOp, stHeavy, stV_mk, stB_mk, stO_mk, T.get_n, T.set_n, T.set_e, Nat.reduceDiv, Nat.reduceMod, sz2, ag2, sz3, Tryz.underlying25, sz31, zr31, tg31, Tryz.underlying31, stepAny, wantedA_none, n1, intOp_neq, ls_t hlt2] <;> rfl)) | (with_reducible rw [ifQ_t]) | (with_reducible rw [ifQ_f]) | (with_reducible refine ifQ_intro ?_ ?_ <;> intro hb))
      subst hQ
      refine ret_back (by simp only [Tryz.results7, resultOf, resultsA, resultA, List.toList_toArray, Fr.ev, T.get_n, Nat.reduceDiv, Nat.reduceMod, Nat.reduceSub, Nat.reduceEqDiff, ↓reduceIte, loadA_w, hget_same] <;> rfl) ?_
      exact ⟨_, by rw [difV_A hE, show min e1 e2 = e2 by omega]; rfl, by repeat (first | exact Same.base _ _ _ | refine Same.hset hw ?_ (ky_le _ _))⟩
    · refine sndQ_body (K := (KT S0)) kt_ok mixed noNum (m := 0) Tryz.func7 ?_
      generalize hQ : retQ _ _ _ _ _ _ = Q0
      refine body_go (c := Tryz.f7.body.getD .skip) (n := 123) rfl rfl (by simp only [↓reduceIte, T.setList, T.set_e, T.set_n, Nat.reduceDiv, Nat.reduceMod, Nat.reduceEqDiff, Nat.zero_add] <;> rfl) ?_
      simp only [Tryz.f7, Option.getD_some]
      repeat' (first | with_reducible (first | refine r_seq ?_ | refine r_next ?_ | refine r_block ?_ | refine r_seq_exit ?_ | refine r_seq_ret ?_ | refine r_blk_n ?_ | refine r_blk_ret ?_ | refine r_blk_hit ?_ | refine r_blk_miss rfl ?_ | refine r_skip ?_ | refine r_exit ?_ | refine r_ret ?_ | refine r_rq_exit ?_ | refine r_rq_ret ?_) | ((with_reducible apply r_regA); (focus (exact sd2)); (focus (exact sd1))) | ((with_reducible refine r_reg (List.toList_toArray) ?_ ?_); focus (exact sd1)) | ((with_reducible apply r_drawL); (focus kernel_rfl); (focus kernel_rfl); (focus (exact sd1))) | ((with_reducible apply r_end); focus (exact sd4)) | ((with_reducible (first | apply r_move | apply r_assign)); (focus (exact sd3)); (focus (exact sd7))) | ((with_reducible apply r_condT); (focus (exact sd3))) | ((with_reducible apply r_gT); (focus (exact sd5)); (focus rfl); (focus (exact sd3))) | ((with_reducible (first | apply r_any | apply r_cond)); focus (simp only [↓reduceIte, clsOf, newBlk, allocOp, Fr.ev, evParts, ofV, ofA, ofS, nVar, AV.cells, rowOf_mk, put_mk, put_none, upd_mk, keyOf_mk, ky_inj, pureOp, readOp, pFA, pFA1, pFA2, rLd, rdAB_row, oneCell_one, hget_same, hget_hset_ite, pBin, binA, intOp_neq, intOp_lss, List.length_cons, List.length_nil, List.getElem?_cons_zero, List.getElem?_cons_succ, List.drop_zero, List.take_succ_cons, List.take_zero, Nat.zero_add, Nat.add_zero, Nat.reduceAdd, Nat.reduceLT, Nat.reduceLeDiff, Nat.reduceEqDiff, Nat.reduceSub, and_self, Nat.add_eq, loadA_w, loadW_s, aSt_w, stOut_s, wrAB_row, ovr, List.set_cons_zero, List.set_cons_succ, allCell, ic_i, actOp, pBuild, pBuild2, fieldsOk, buildParts, binA, stepOp, stHeavy, stV_mk, stB_mk, stO_mk, T.get_n, T.set_n, T.set_e, Nat.reduceDiv, Nat.reduceMod, sz2, ag2, sz3, Tryz.underlying25, sz31, zr31, tg31, Tryz.underlying31, stepAny, wantedA_none, n1, intOp_neq, ls_f hlt2] <;> rfl)) | (with_reducible rw [ifQ_t]) | (with_reducible rw [ifQ_f]) | (with_reducible refine ifQ_intro ?_ ?_ <;> intro hb))
      subst hQ
      refine ret_back (by simp only [Tryz.results7, resultOf, resultsA, resultA, List.toList_toArray, Fr.ev, T.get_n, Nat.reduceDiv, Nat.reduceMod, Nat.reduceSub, Nat.reduceEqDiff, ↓reduceIte, loadA_w, hget_same] <;> rfl) ?_
      exact ⟨_, by rw [difV_A hE, show min e1 e2 = e1 by omega]; rfl, by repeat (first | exact Same.base _ _ _ | refine Same.hset hw ?_ (ky_le _ _))⟩
  have n1 : (e1 != e2) = false := by simpa using hE
  have hpos : 0 ≤ firstI X X2 Y Y2 := Classical.byContradiction fun h => hlt ⟨hE, h⟩
  obtain ⟨hf, hcase⟩ := firstI_pos hpos
  obtain ⟨mn, hmn⟩ : ∃ mn, mn = min X.length X2.length := ⟨_, rfl⟩
  refine sndQ_body (K := (KT S0)) kt_ok mixed noNum (m := mn + 1) Tryz.func7 ?_
  generalize hQ : retQ _ _ _ _ _ _ = Q0
  refine body_go (c := Tryz.f7.body.getD .skip) (n := 123) rfl rfl (by simp only [↓reduceIte, T.setList, T.set_e, T.set_n, Nat.reduceDiv, Nat.reduceMod, Nat.reduceEqDiff, Nat.zero_add] <;> rfl) ?_
  simp only [Tryz.f7, Option.getD_some]
  repeat' (first | with_reducible (first | refine r_seq ?_ | refine r_next ?_ | refine r_block ?_ | refine r_seq_exit ?_ | refine r_seq_ret ?_ | refine r_blk_n ?_ | refine r_blk_ret ?_ | refine r_blk_hit ?_ | refine r_blk_miss rfl ?_ | refine r_skip ?_ | refine r_exit ?_ | refine r_ret ?_ | refine r_rq_exit ?_ | refine r_rq_ret ?_) | ((with_reducible apply r_regA); (focus (exact sd2)); (focus (exact sd1))) | ((with_reducible refine r_reg (List.toList_toArray) ?_ ?_); focus (exact sd1)) | ((with_reducible apply r_drawL); (focus kernel_rfl); (focus kernel_rfl); (focus (exact sd1))) | ((with_reducible apply r_end); focus (exact sd4)) | ((with_reducible (first | apply r_move | apply r_assign)); (focus (exact sd3)); (focus (exact sd7))) | ((with_reducible apply r_condT); (focus (exact sd3))) | ((with_reducible apply r_gT); (focus (exact sd5)); (focus rfl); (focus (exact sd3))) | ((with_reducible (first | apply r_any | apply r_cond)); focus (simp only [↓reduceIte, clsOf, newBlk, allocOp, Fr.ev, ofV, ofA, ofS, nVar, AV.cells, rowOf_mk, put_mk, upd_mk, keyOf_mk, ky_inj, pureOp, readOp, pFA, pFA1, pFA2, rLd, rdAB_row, oneCell_one, hget_same, hget_hset_ite, pBin, binA, intOp_neq, List.length_cons, List.length_nil, List.getElem?_cons_zero, List.drop_zero, List.take_succ_cons, List.take_zero, Nat.zero_add, Nat.add_zero, Nat.reduceAdd, Nat.reduceLT, Nat.reduceLeDiff, Nat.reduceEqDiff, Nat.reduceSub, Nat.add_eq, loadA_w, loadW_s, binA, stepOp, stV_mk, stB_mk, T.get_n, T.set_n, T.set_e, Nat.reduceDiv, Nat.reduceMod, sz2, ag2, Tryz.underlying25, zr31, tg31, stepAny, wantedA_none, n1, intOp_neq] <;> rfl)) | (with_reducible rw [ifQ_t]) | (with_reducible rw [ifQ_f]) | (with_reducible refine ifQ_intro ?_ ?_ <;> intro hb))
  refine r_loop (I := fun nn fr s1 => ∃ lc tt i, fr = ⟨F, lc, 123, tt, [], .no⟩ ∧ s1 = ⟨(hset (hset (hset h (ky F 0) (mkRow [.int .i64 e1, sa, ra, .int .i64 p1] 0)) (ky F 1) (mkRow [.int .i64 e2, sb, rb, .int .i64 p2] 0)) (ky F 2) (mkRow [.int .i64 0, .int .i64 0, .int .i64 0] 0)), F + 1⟩ ∧ i ≤ mn ∧ nn = mn - i ∧ lc + nn * 1000 ≤ 100000000000000000000000000 ∧ (∀ j : Nat, j < i → (resZ X Y)[j]? = (resZ X2 Y2)[j]?) ∧ tt.get 2 = some (.ptr (ky F 0) 0) ∧ tt.get 3 = some (.ptr (ky F 1) 0) ∧ tt.get 4 = some (.ptr (ky F 2) 0) ∧ tt.get 7 = some (.int .i64 (i : Int))) (n := mn) ?_ ?_ ?_
  · omega
  · exact ⟨_, _, 0, rfl, rfl, Nat.zero_le _, (Nat.sub_zero _).symm, by omega, fun j hj => absurd hj (Nat.not_lt_zero _), (by first | (simp only [T.get_n, Nat.reduceEqDiff, Nat.reduceDiv, Nat.reduceMod, Nat.reduceSub, ↓reduceIte] <;> rfl) | rfl), (by first | (simp only [T.get_n, Nat.reduceEqDiff, Nat.reduceDiv, Nat.reduceMod, ↓reduceIte] <;> rfl) | rfl), (by first | (simp only [T.get_n, Nat.reduceEqDiff, Nat.reduceDiv, Nat.reduceMod, Nat.reduceSub, ↓reduceIte] <;> rfl) | rfl), (by first | (simp only [T.get_n, Nat.reduceEqDiff, Nat.reduceDiv, Nat.reduceMod, ↓reduceIte] <;> rfl) | rfl)⟩
  rintro nn fr s1 ⟨lc, tt, i, rfl, rfl, hi, rfl, hlc, hI, u2, u3, u4, u7⟩
  by_cases hil : i < mn
  · obtain ⟨b1, o1, eo1, cap1, q, k, c, p, v, l, rfl, hb1, hx1, hy1, _, _, _, _, hl1, r1, _⟩ := res_at hw hRA (SameH.refl h) (show i < X.length by omega)
    obtain ⟨b2, o2, eo2, cap2, q2, k2, c2, p2', v2, l2, rfl, hb2, hx2, hy2, _, _, _, _, hl2, r2, _⟩ := res_at hw hRB (SameH.refl h) (show i < X2.length by omega)
    obtain ⟨_, _, _, _, ee, _, hr⟩ := res_seq hw hRA (show i < X.length by omega)
    cases ee
    have z1 := resZ_at hx1 hy1
    have z2 := resZ_at hx2 hy2
    have iA : i < X.length := by omega
    have iB : i < X2.length := by omega
    by_cases hc : q = q2 ∧ k = k2 ∧ c = c2 ∧ p = p2' ∧ l = l2
    · have hd := dec_t hc
      repeat' (first | with_reducible (first | refine r_seq ?_ | refine r_next ?_ | refine r_block ?_ | refine r_seq_exit ?_ | refine r_seq_ret ?_ | refine r_blk_n ?_ | refine r_blk_ret ?_ | refine r_blk_hit ?_ | refine r_blk_miss rfl ?_ | refine r_skip ?_ | refine r_exit ?_ | refine r_ret ?_ | refine r_rq_exit ?_ | refine r_rq_ret ?_) | ((with_reducible apply r_regA); (focus (exact sd2)); (focus (exact sd1))) | ((with_reducible refine r_reg (List.toList_toArray) ?_ ?_); focus (exact sd1)) | ((with_reducible apply (r_drawW (js := [0, 1, 2, 3, 4, 5, 6, 7, 8, 9, 10, 11]))); (focus kernel_rfl); (focus kernel_rfl); (focus (exact sd1))) | ((with_reducible apply d_end); (focus (simp only [List.length_cons, List.length_nil, Nat.add_assoc, Nat.reduceAdd, Nat.zero_add] <;> rfl))) | ((with_reducible apply d_any); (focus rfl); (iterate 2 (focus (simp only [↓reduceIte, Bool.not_true, clsOf, clsCall, Fr.ev, evs, put_mk, ky_inj, pureOp, readOp, pFA, pFA1, pFA2, rLd, rdAB_row, oneCell_one, someAgg_s, hget_same, hget_hset_ite, List.length_cons, List.length_nil, List.getElem?_cons_zero, List.getElem?_cons_succ, List.drop_zero, List.drop_succ_cons, List.take_succ_cons, List.take_zero, Nat.zero_add, Nat.reduceAdd, Nat.reduceLT, Nat.reduceLeDiff, Nat.reduceEqDiff, Nat.add_eq, loadA_w, loadW_a, loadW_s, pUn_not, callTo_s, heavyCall, target, List.nil_append, List.append_nil, Bool.and_true, stepOp, stHeavy, stV_mk, stO_mk, sz23, ag23, Tryz.underlying25, sz28, ag28, stepAny, wantedA_none, readSelf, av_int, av_agg, avs_nil, avs_cons, Tget_set, u2, u3, u7, pIA_s Tryz.underlying23 sz28 iA, pIA_s Tryz.underlying23 sz28 iB, r1, r2, ky_old hb1, ky_old hb2, k_sameB hl1 hl2, hd, sameS hw, sameT, av_self_L hRA.1, av_self_L hRB.1, av_self_L hl1, av_self_L hl2] <;> rfl))); (focus (first | exact SameH.refl _ | (simp only [sameT, sameS hw]; done)))) | ((with_reducible apply r_drawL); (focus kernel_rfl); (focus kernel_rfl); (focus (exact sd1))) | ((with_reducible apply r_end); focus (exact sd4)) | ((with_reducible (first | apply r_move | apply r_assign)); (focus (simp only [Tget_set, Nat.reduceEqDiff, ↓reduceIte, u7] <;> rfl)); (focus (exact sd7))) | ((with_reducible apply r_condT); (focus (exact sd3))) | ((with_reducible apply r_gT); (focus (exact sd5)); (focus rfl); (focus (exact sd3))) | ((with_reducible (first | apply r_any | apply r_cond)); focus (simp only [↓reduceIte, clsOf, clsCall, Fr.ev, ofV, ofA, ofS, put_mk, ky_inj, pureOp, readOp, pFA, pFA1, pFA2, rLd, rdAB_row, oneCell_one, hget_same, hget_hset_ite, pBin, binA, intOp_lss, pPick, List.length_cons, List.length_nil, List.getElem?_cons_zero, List.getElem?_cons_succ, List.drop_zero, List.drop_succ_cons, List.take_succ_cons, List.take_zero, Nat.zero_add, Nat.reduceAdd, Nat.reduceLT, Nat.reduceLeDiff, Nat.reduceEqDiff, Nat.add_eq, loadA_w, loadW_s, binA, stepOp, stV_mk, sz23, ag23, Tryz.underlying25, stepAny, wantedA_none, rCall, rLen, Tget_set, u2, u3, lA, lB, lt_t iA, lt_t iB, intOp_add (show inR ((i : Int) + 1) by unfold inR; omega)] <;> rfl)) | (with_reducible rw [ifQ_t]) | (with_reducible rw [ifQ_f]) | (with_reducible refine ifQ_intro ?_ ?_ <;> intro hb))
      refine r_rq_n (k := mn - (i + 1)) (by omega) ⟨_, _, i + 1, rfl, rfl, by omega, rfl, by omega, fun j hj => ?_, (by first | (simp only [Tget_set, Nat.reduceEqDiff, ↓reduceIte, u2] <;> rfl) | rfl), (by first | (simp only [Tget_set, Nat.reduceEqDiff, ↓reduceIte, u3] <;> rfl) | rfl), (by first | (simp only [Tget_set, Nat.reduceEqDiff, ↓reduceIte, u4] <;> rfl) | rfl), (by first | (simp only [Tget_set, ↓reduceIte] <;> rfl) | rfl)⟩
      by_cases hji : j < i
      · exact hI j hji
      · obtain rfl : j = i := by omega
        obtain ⟨e1, e2, e3, e4, e5⟩ := hc
        rw [z1, z2, e1, e2, e3, e4, e5]; rfl
    · have hd := dec_f hc
      repeat' (first | with_reducible (first | refine r_seq ?_ | refine r_next ?_ | refine r_block ?_ | refine r_seq_exit ?_ | refine r_seq_ret ?_ | refine r_blk_n ?_ | refine r_blk_ret ?_ | refine r_blk_hit ?_ | refine r_blk_miss rfl ?_ | refine r_skip ?_ | refine r_exit ?_ | refine r_ret ?_ | refine r_rq_exit ?_ | refine r_rq_ret ?_) | ((with_reducible apply r_regA); (focus (exact sd2)); (focus (exact sd1))) | ((with_reducible refine r_reg (List.toList_toArray) ?_ ?_); focus (exact sd1)) | ((with_reducible apply (r_drawW (js := [0, 1, 2, 3, 4, 5, 6, 7, 8, 9, 10, 11]))); (focus kernel_rfl); (focus kernel_rfl); (focus (exact sd1))) | ((with_reducible apply d_end); (focus (simp only [List.length_cons, List.length_nil, Nat.add_assoc, Nat.reduceAdd, Nat.zero_add] <;> rfl))) | ((with_reducible apply d_any); (focus rfl); (iterate 2 (focus (simp only [↓reduceIte, Bool.not_false, clsOf, clsCall, Fr.ev, evs, put_mk, ky_inj, pureOp, readOp, pFA, pFA1, pFA2, rLd, rdAB_row, oneCell_one, someAgg_s, hget_same, hget_hset_ite, List.length_cons, List.length_nil, List.getElem?_cons_zero, List.getElem?_cons_succ, List.drop_zero, List.drop_succ_cons, List.take_succ_cons, List.take_zero, Nat.zero_add, Nat.reduceAdd, Nat.reduceLT, Nat.reduceLeDiff, Nat.reduceEqDiff, Nat.add_eq, loadA_w, loadW_a, loadW_s, pUn_not, callTo_s, heavyCall, target, List.nil_append, List.append_nil, Bool.and_true, stepOp, stHeavy, stV_mk, stO_mk, sz23, ag23, Tryz.underlying25, sz28, ag28, stepAny, wantedA_none, readSelf, av_int, av_agg, avs_nil, avs_cons, Tget_set, u2, u3, u7, pIA_s Tryz.underlying23 sz28 iA, pIA_s Tryz.underlying23 sz28 iB, r1, r2, ky_old hb1, ky_old hb2, k_sameB hl1 hl2, hd, sameS hw, sameT, av_self_L hRA.1, av_self_L hRB.1, av_self_L hl1, av_self_L hl2] <;> rfl))); (focus (first | exact SameH.refl _ | (simp only [sameT, sameS hw]; done)))) | ((with_reducible apply r_drawL); (focus kernel_rfl); (focus kernel_rfl); (focus (exact sd1))) | ((with_reducible apply r_end); focus (exact sd4)) | ((with_reducible (first | apply r_move | apply r_assign)); (focus (simp only [Tget_set, Nat.reduceEqDiff, ↓reduceIte, u7] <;> rfl)); (focus (exact sd7))) | ((with_reducible apply r_condT); (focus (exact sd3))) | ((with_reducible apply r_gT); (focus (exact sd5)); (focus rfl); (focus (exact sd3))) | ((with_reducible (first | apply r_any | apply r_cond)); focus (simp only [↓reduceIte, clsOf, clsCall, Fr.ev, evParts, ofV, ofA, ofS, AV.cells, put_mk, put_none, ky_inj, pureOp, readOp, pFA, pFA1, pFA2, rLd, rdAB_row, oneCell_one, someAgg_s, hget_same, hget_hset_ite, pBin, binA, intOp_lss, pPick, List.length_cons, List.length_nil, List.getElem?_cons_zero, List.getElem?_cons_succ, List.drop_zero, List.drop_succ_cons, List.take_succ_cons, List.take_zero, Nat.zero_add, Nat.add_zero, Nat.reduceAdd, Nat.reduceLT, Nat.reduceLeDiff, Nat.reduceEqDiff, and_self, Nat.add_eq, loadA_w, loadW_s, aSt_w, stOut_s, wrAB_row, ovr, List.set_cons_zero, List.set_cons_succ, allCell, ic_i, actOp, pBuild, pBuild2, fieldsOk, buildParts, binA, stepOp, stHeavy, stV_mk, stO_mk, sz2, ag2, sz3, sz23, ag23, Tryz.underlying25, Tryz.underlying28, sz31, zr31, Tryz.underlying31, stepAny, wantedA_none, rCall, rLen, Tget_set, u2, u3, u4, lA, lB, lt_t iA, lt_t iB, pIA_s Tryz.underlying23 sz28 iA, ky_old hb1, hr, listC_eq, fill3_0, fill3_1, b31, b32, List.length_cons, List.length_nil, Nat.reduceAdd, someAgg_s] <;> rfl)) | (with_reducible rw [ifQ_t]) | (with_reducible rw [ifQ_f]) | (with_reducible refine ifQ_intro ?_ ?_ <;> intro hb))
      subst hQ
      refine ret_back (by simp only [Tryz.results7, resultOf, resultsA, resultA, List.toList_toArray, Fr.ev, Tget_set, Nat.reduceEqDiff, ↓reduceIte, loadA_w, loadW_a, rdAB_row, hget_same, someAgg_s, List.length_cons, List.length_nil, Nat.reduceLeDiff, Nat.reduceAdd, Nat.zero_add, List.drop_zero, List.take_succ_cons, List.take_zero, u4, ag31, sz31] <;> rfl) ?_
      have e1 : fstR X X2 Y Y2 = i := fstR_is hyA hyB (by omega) (by omega) hI (.inr (.inr (by rw [z1, z2]; intro e; apply hc; simpa [and_assoc] using e)))
      have hp : 0 ≤ firstI X X2 Y Y2 := by unfold firstI; rw [e1, if_pos (.inl (by omega))]; omega
      exact ⟨_, out_eq (by rw [difV_B hE hp, e1]; unfold seqI; rw [if_pos (show i < min X.length X2.length by omega)]; rfl), by repeat (first | exact Same.base _ _ _ | refine Same.hset hw ?_ (ky_le _ _))⟩
  · have hend : i = mn := by omega
    have e1 : fstR X X2 Y Y2 = i := fstR_is hyA hyB (by omega) (by omega) hI (by omega)
    have hne : X.length ≠ X2.length := by rcases hcase with h | h <;> omega
    by_cases hls : X.length < X2.length
    · repeat' (first | with_reducible (first | refine r_seq ?_ | refine r_next ?_ | refine r_block ?_ | refine r_seq_exit ?_ | refine r_seq_ret ?_ | refine r_blk_n ?_ | refine r_blk_ret ?_ | refine r_blk_hit ?_ | refine r_blk_miss rfl ?_ | refine r_skip ?_ | refine r_exit ?_ | refine r_ret ?_ | refine r_rq_exit ?_ | refine r_rq_ret ?_) | ((with_reducible apply r_regA); (focus (exact sd2)); (focus (exact sd1))) | ((with_reducible refine r_reg (List.toList_toArray) ?_ ?_); focus (exact sd1)) | ((with_reducible apply r_drawL); (focus kernel_rfl); (focus kernel_rfl); (focus (exact sd1))) | ((with_reducible apply r_end); focus (exact sd4)) | ((with_reducible (first | apply r_move | apply r_assign)); (focus (simp only [Tget_set, ↓reduceIte, u7] <;> rfl)); (focus (exact sd7))) | ((with_reducible apply r_condT); (focus (exact sd3))) | ((with_reducible apply r_gT); (focus (exact sd5)); (focus rfl); (focus (exact sd3))) | ((with_reducible (first | apply r_any | apply r_cond)); focus (simp only [↓reduceIte, wantedA_eq, gBool_t, clsOf, clsCall, Fr.ev, evParts, ofV, ofA, ofS, AV.cells, put_mk, put_none, ky_inj, pureOp, readOp, pFA, pFA1, pFA2, rLd, rdAB_row, oneCell_one, someAgg_s, hget_same, hget_hset_ite, pBin, binA, intOp_lss, pPick, List.length_cons, List.length_nil, List.getElem?_cons_zero, List.getElem?_cons_succ, List.drop_zero, List.drop_succ_cons, List.take_succ_cons, List.take_zero, Nat.zero_add, Nat.reduceAdd, Nat.reduceLT, Nat.reduceLeDiff, Nat.reduceEqDiff, and_self, Nat.add_eq, loadA_w, loadW_s, aSt_w, stOut_s, wrAB_row, ovr, List.set_cons_zero, List.set_cons_succ, allCell, ic_i, actOp, pBuild, pBuild2, fieldsOk, buildParts, binA, stepOp, stHeavy, stV_mk, stO_mk, sz2, sz3, sz23, ag23, Tryz.underlying25, sz31, zr31, Tryz.underlying31, stepAny, wantedA_none, rCall, rLen, Tget_set, u2, u3, u4, lA, lB, lt_f (show ¬ i < X.length by omega), lt_t hls, listC_eq, fill3_0, fill3_1, b31, b32, List.length_cons, List.length_nil, Nat.reduceAdd, someAgg_s] <;> rfl)) | (with_reducible rw [ifQ_t]) | (with_reducible rw [ifQ_f]) | (with_reducible refine ifQ_intro ?_ ?_ <;> intro hb))
      subst hQ
      refine ret_back (by simp only [Tryz.results7, resultOf, resultsA, resultA, List.toList_toArray, Fr.ev, Tget_set, Nat.reduceEqDiff, ↓reduceIte, loadA_w, loadW_a, rdAB_row, hget_same, someAgg_s, List.length_cons, List.length_nil, Nat.reduceLeDiff, Nat.reduceAdd, Nat.zero_add, List.drop_zero, List.take_succ_cons, List.take_zero, u4, ag31, sz31] <;> rfl) ?_
      exact ⟨_, out_eq (by rw [difV_B hE hpos, e1]; unfold seqI; rw [if_neg (show ¬ i < min X.length X2.length by omega), show i = X.length by omega]; rfl), by repeat (first | exact Same.base _ _ _ | refine Same.hset hw ?_ (ky_le _ _))⟩
    · repeat' (first | with_reducible (first | refine r_seq ?_ | refine r_next ?_ | refine r_block ?_ | refine r_seq_exit ?_ | refine r_seq_ret ?_ | refine r_blk_n ?_ | refine r_blk_ret ?_ | refine r_blk_hit ?_ | refine r_blk_miss rfl ?_ | refine r_skip ?_ | refine r_exit ?_ | refine r_ret ?_ | refine r_rq_exit ?_ | refine r_rq_ret ?_) | ((with_reducible apply r_regA); (focus (exact sd2)); (focus (exact sd1))) | ((with_reducible refine r_reg (List.toList_toArray) ?_ ?_); focus (exact sd1)) | ((with_reducible apply r_drawL); (focus kernel_rfl); (focus kernel_rfl); (focus (exact sd1))) | ((with_reducible apply r_end); focus (exact sd4)) | ((with_reducible (first | apply r_move | apply r_assign)); (focus (simp only [Tget_set, Nat.reduceEqDiff, ↓reduceIte, u7] <;> rfl)); (focus (exact sd7))) | ((with_reducible apply r_condT); (focus (exact sd3))) | ((with_reducible apply r_gT); (focus (exact sd5)); (focus rfl); (focus (exact sd3))) | ((with_reducible (first | apply r_any | apply r_cond)); focus (simp only [↓reduceIte, clsOf, clsCall, Fr.ev, evParts, ofV, ofA, ofS, AV.cells, put_mk, put_none, ky_inj, pureOp, readOp, pFA, pFA1, pFA2, rLd, rdAB_row, oneCell_one, someAgg_s, hget_same, hget_hset_ite, pBin, binA, intOp_lss, pPick, List.length_cons, List.length_nil, List.getElem?_cons_zero, List.getElem?_cons_succ, List.drop_zero, List.drop_succ_cons, List.take_succ_cons, List.take_zero, Nat.zero_add, Nat.reduceAdd, Nat.reduceLT, Nat.reduceLeDiff, Nat.reduceEqDiff, and_self, Nat.add_eq, loadA_w, loadW_s, aSt_w, stOut_s, wrAB_row, ovr, List.set_cons_zero, List.set_cons_succ, allCell, ic_i, actOp, pBuild, pBuild2, fieldsOk, buildParts, binA, stepOp, stHeavy, stV_mk, stO_mk, sz2, sz3, sz23, ag23, Tryz.underlying25, sz31, zr31, Tryz.underlying31, stepAny, wantedA_none, rCall, rLen, Tget_set, u2, u3, u4, lA, lB, lt_t (show i < X.length by omega), lt_f (show ¬ i < X2.length by omega), lt_f hls, lt_t (show X2.length < X.length by omega), listC_eq, fill3_0, fill3_1, b31, b32, List.length_cons, List.length_nil, Nat.reduceAdd, someAgg_s] <;> rfl)) | (with_reducible rw [ifQ_t]) | (with_reducible rw [ifQ_f]) | (with_reducible refine ifQ_intro ?_ ?_ <;> intro hb))
      subst hQ
      refine ret_back (by simp only [Tryz.results7, resultOf, resultsA, resultA, List.toList_toArray, Fr.ev, Tget_set, Nat.reduceEqDiff, ↓reduceIte, loadA_w, loadW_a, rdAB_row, hget_same, someAgg_s, List.length_cons, List.length_nil, Nat.reduceLeDiff, Nat.reduceAdd, Nat.zero_add, List.drop_zero, List.take_succ_cons, List.take_zero, u4, ag31, sz31] <;> rfl) ?_
      exact ⟨_, out_eq (by rw [difV_B hE hpos, e1]; unfold seqI; rw [if_neg (show ¬ i < min X.length X2.length by omega), show i = X2.length by omega]; rfl), by repeat (first | exact Same.base _ _ _ | refine Same.hset hw ?_ (ky_le _ _))⟩
  

end Go.Proofs.YtfhgiadogeephaaGreatDoor

namespace Go.Proofs.YtfhgiadogeephaaGreatDoor
open Go Go.Ai
set_option maxRecDepth 100000

theorem str_neq_f (t : Tx) : strOp .neq t t = some (.bool false) := by simp [strOp]
theorem str_neq_t {t u : Tx} (h : ¬ t = u) : strOp .neq t u = some (.bool true) := by simp [strOp, h]
theorem txI_at {A B : Nat} {h : Heap} {v : AV} {ss : List Tx} {i : Nat} {t : Tx} (hp : LstI A B h ksT v (tL ss)) (hi : ss[i]? = some t) : ∃ b o eo cap, v = .slice b o eo ss.length cap ∧ rdAB (hget h b) (o + i * 1) 1 = some [.str t] := by
  have hil := (List.getElem?_eq_some_iff.1 hi).1
  obtain ⟨b, o, eo, cap, e, _, _, h1, _⟩ := hp.at (show i < (tL ss).length by rw [tL_len]; exact hil)
  rw [tL_len] at e
  refine ⟨b, o, eo, cap, e, ?_⟩
  have : (tL ss)[i]'(by rw [tL_len]; exact hil) = [.str t] := by
    rw [List.getElem?_eq_getElem hil] at hi
    simp only [tL, List.getElem_map, Option.some.inj hi]
  rw [this] at h1
  exact h1
set_option maxHeartbeats 16000000 in
theorem differB2 (h : Heap) (F : Nat) (e1 e2 p1 p2 : Int) (sa sb ra rb : AV) (A B : Tx) (X X2 : List (List AV)) (Y Y2 : List (List (List AV))) (hSA : BytP h sa A) (hSB : BytP h sb B) (rSA : RoomA sa) (rSB : RoomA sb) (lSA : A.length ≤ 50000) (lSB : B.length ≤ 50000) (hRA : RowN h ksR 4 ksV ra X Y) (hRB : RowN h ksR 4 ksV rb X2 Y2) (rRA : RoomA ra) (rRB : RoomA rb) (hE : e1 = e2) (h0 : ¬ 0 ≤ firstI X X2 Y Y2) : Snd Tryz.prog GL 7 [.agg [.int .i64 e1, sa, ra, .int .i64 p1], .agg [.int .i64 e2, sb, rb, .int .i64 p2]] ⟨h, F⟩ [.val (difA (difV e1 e2 A B X X2 Y Y2)) ⟨h, F⟩] := by
  refine snd_val (by simp [Kin, Kins, difA]) fun hw => ?_
  have mxl : maxLen = 9223372036854775807 := by decide
  have lA := fun (h2 : Heap) => rLen1_L (h2 := h2) Tryz.underlying23 hRA.1
  have lB := fun (h2 : Heap) => rLen1_L (h2 := h2) Tryz.underlying23 hRB.1
  have hlA := hRA.1.len
  have hlB := hRB.1.len
  have hyA := hRA.len
  have hyB := hRB.len
  have n1 : (e1 != e2) = false := by simpa using hE
  obtain ⟨hxx, hz⟩ := firstI_neg hyA hyB h0
  have hnA : (lnL A).length ≤ 50001 := by
    have := lnR_len A
    unfold lnL; split
    · omega
    · rw [List.length_append]; simp; omega
  have low0 : Low F h (hset (hset (hset h (ky F 0) (mkRow [.int .i64 e1, sa, ra, .int .i64 p1] 0)) (ky F 1) (mkRow [.int .i64 e2, sb, rb, .int .i64 p2] 0)) (ky F 2) (mkRow [.int .i64 0, .int .i64 0, .int .i64 0] 0)) := (((Low.refl F h).set (Nat.le_refl F)).set (Nat.le_refl F)).set (Nat.le_refl F)
  have S0' := low0.same hw
  obtain ⟨mn, hmn⟩ : ∃ mn, mn = min X.length X2.length := ⟨_, rfl⟩
  refine sndQ_body (K := (KT SD)) kt_ok mixed noNum (m := mn + (lnL A).length + 1) Tryz.func7 ?_
  generalize hQ : retQ _ _ _ _ _ _ = Q0
  refine body_go (c := Tryz.f7.body.getD .skip) (n := 123) rfl rfl (by simp only [↓reduceIte, T.setList, T.set_e, T.set_n, Nat.reduceDiv, Nat.reduceMod, Nat.reduceEqDiff, Nat.zero_add] <;> rfl) ?_
  simp only [Tryz.f7, Option.getD_some]
  repeat' (first | with_reducible (first | refine r_seq ?_ | refine r_next ?_ | refine r_block ?_ | refine r_seq_exit ?_ | refine r_seq_ret ?_ | refine r_blk_n ?_ | refine r_blk_ret ?_ | refine r_blk_hit ?_ | refine r_blk_miss rfl ?_ | refine r_skip ?_ | refine r_exit ?_ | refine r_ret ?_ | refine r_rq_exit ?_ | refine r_rq_ret ?_) | ((with_reducible apply r_regA); (focus (exact sd2)); (focus (exact sd1))) | ((with_reducible refine r_reg (List.toList_toArray) ?_ ?_); focus (exact sd1)) | ((with_reducible apply r_drawL); (focus kernel_rfl); (focus kernel_rfl); (focus (exact sd1))) | ((with_reducible apply r_end); focus (exact sd4)) | ((with_reducible (first | apply r_move | apply r_assign)); (focus (exact sd3)); (focus (exact sd7))) | ((with_reducible apply r_condT); (focus (exact sd3))) | ((with_reducible apply r_gT); (focus (exact sd5)); (focus rfl); (focus (exact sd3))) | ((with_reducible (first | apply r_any | apply r_cond)); focus (simp only [↓reduceIte, clsOf, newBlk, allocOp, Fr.ev, ofV, ofA, ofS, nVar, AV.cells, rowOf_mk, put_mk, upd_mk, keyOf_mk, ky_inj, pureOp, readOp, pFA, pFA1, pFA2, rLd, rdAB_row, oneCell_one, hget_same, hget_hset_ite, pBin, binA, intOp_neq, List.length_cons, List.length_nil, List.getElem?_cons_zero, List.drop_zero, List.take_succ_cons, List.take_zero, Nat.zero_add, Nat.add_zero, Nat.reduceAdd, Nat.reduceLT, Nat.reduceLeDiff, Nat.reduceEqDiff, Nat.reduceSub, Nat.add_eq, loadA_w, loadW_s, binA, stepOp, stV_mk, stB_mk, T.get_n, T.set_n, T.set_e, Nat.reduceDiv, Nat.reduceMod, sz2, ag2, Tryz.underlying25, zr31, tg31, stepAny, wantedA_none, n1, intOp_neq] <;> rfl)) | (with_reducible rw [ifQ_t]) | (with_reducible rw [ifQ_f]) | (with_reducible refine ifQ_intro ?_ ?_ <;> intro hb))
  refine r_loop (I := fun nn fr s1 => ∃ lc tt i, fr = ⟨F, lc, 123, tt, [], .no⟩ ∧ s1 = ⟨(hset (hset (hset h (ky F 0) (mkRow [.int .i64 e1, sa, ra, .int .i64 p1] 0)) (ky F 1) (mkRow [.int .i64 e2, sb, rb, .int .i64 p2] 0)) (ky F 2) (mkRow [.int .i64 0, .int .i64 0, .int .i64 0] 0)), F + 1⟩ ∧ i ≤ mn ∧ nn = mn - i ∧ lc + nn * 1000 ≤ 100000000000000000000000000 ∧ (∀ j : Nat, j < i → (resZ X Y)[j]? = (resZ X2 Y2)[j]?) ∧ tt.get 2 = some (.ptr (ky F 0) 0) ∧ tt.get 3 = some (.ptr (ky F 1) 0) ∧ tt.get 4 = some (.ptr (ky F 2) 0) ∧ tt.get 7 = some (.int .i64 (i : Int))) (n := mn) ?_ ?_ ?_
  · omega
  · exact ⟨_, _, 0, rfl, rfl, Nat.zero_le _, (Nat.sub_zero _).symm, by omega, fun j hj => absurd hj (Nat.not_lt_zero _), (by first | (simp only [T.get_n, Nat.reduceEqDiff, Nat.reduceDiv, Nat.reduceMod, Nat.reduceSub, ↓reduceIte] <;> rfl) | rfl), (by first | (simp only [T.get_n, Nat.reduceEqDiff, Nat.reduceDiv, Nat.reduceMod, ↓reduceIte] <;> rfl) | rfl), (by first | (simp only [T.get_n, Nat.reduceEqDiff, Nat.reduceDiv, Nat.reduceMod, Nat.reduceSub, ↓reduceIte] <;> rfl) | rfl), (by first | (simp only [T.get_n, Nat.reduceEqDiff, Nat.reduceDiv, Nat.reduceMod, ↓reduceIte] <;> rfl) | rfl)⟩
  rintro nn fr s1 ⟨lc, tt, i, rfl, rfl, hi, rfl, hlc, hI, u2, u3, u4, u7⟩
  by_cases hil : i < mn
  · obtain ⟨b1, o1, eo1, cap1, q, k, c, p, v, l, rfl, hb1, hx1, hy1, _, _, _, _, hl1, r1, _⟩ := res_at hw hRA (SameH.refl h) (show i < X.length by omega)
    obtain ⟨b2, o2, eo2, cap2, q2, k2, c2, p2', v2, l2, rfl, hb2, hx2, hy2, _, _, _, _, hl2, r2, _⟩ := res_at hw hRB (SameH.refl h) (show i < X2.length by omega)
    obtain ⟨_, _, _, _, ee, _, hr⟩ := res_seq hw hRA (show i < X.length by omega)
    cases ee
    have z1 := resZ_at hx1 hy1
    have z2 := resZ_at hx2 hy2
    have iA : i < X.length := by omega
    have iB : i < X2.length := by omega
    by_cases hc : q = q2 ∧ k = k2 ∧ c = c2 ∧ p = p2' ∧ l = l2
    · have hd := dec_t hc
      repeat' (first | with_reducible (first | refine r_seq ?_ | refine r_next ?_ | refine r_block ?_ | refine r_seq_exit ?_ | refine r_seq_ret ?_ | refine r_blk_n ?_ | refine r_blk_ret ?_ | refine r_blk_hit ?_ | refine r_blk_miss rfl ?_ | refine r_skip ?_ | refine r_exit ?_ | refine r_ret ?_ | refine r_rq_exit ?_ | refine r_rq_ret ?_) | ((with_reducible apply r_regA); (focus (exact sd2)); (focus (exact sd1))) | ((with_reducible refine r_reg (List.toList_toArray) ?_ ?_); focus (exact sd1)) | ((with_reducible apply (r_drawW (js := [0, 1, 2, 3, 4, 5, 6, 7, 8, 9, 10, 11]))); (focus kernel_rfl); (focus kernel_rfl); (focus (exact sd1))) | ((with_reducible apply d_end); (focus (simp only [List.length_cons, List.length_nil, Nat.add_assoc, Nat.reduceAdd, Nat.zero_add] <;> rfl))) | ((with_reducible apply d_any); (focus rfl); (iterate 2 (focus (simp only [↓reduceIte, Bool.not_true, clsOf, clsCall, Fr.ev, evs, put_mk, ky_inj, pureOp, readOp, pFA, pFA1, pFA2, rLd, rdAB_row, oneCell_one, someAgg_s, hget_same, hget_hset_ite, List.length_cons, List.length_nil, List.getElem?_cons_zero, List.getElem?_cons_succ, List.drop_zero, List.drop_succ_cons, List.take_succ_cons, List.take_zero, Nat.zero_add, Nat.reduceAdd, Nat.reduceLT, Nat.reduceLeDiff, Nat.reduceEqDiff, Nat.add_eq, loadA_w, loadW_a, loadW_s, pUn_not, callTo_s, heavyCall, target, List.nil_append, List.append_nil, Bool.and_true, stepOp, stHeavy, stV_mk, stO_mk, sz23, ag23, Tryz.underlying25, sz28, ag28, stepAny, wantedA_none, readSelf, av_int, av_agg, avs_nil, avs_cons, Tget_set, u2, u3, u7, pIA_s Tryz.underlying23 sz28 iA, pIA_s Tryz.underlying23 sz28 iB, r1, r2, ky_old hb1, ky_old hb2, k_sameB hl1 hl2, hd, sameS hw, sameT, av_self_L hRA.1, av_self_L hRB.1, av_self_L hl1, av_self_L hl2] <;> rfl))); (focus (first | exact SameH.refl _ | (simp only [sameT, sameS hw]; done)))) | ((with_reducible apply r_drawL); (focus kernel_rfl); (focus kernel_rfl); (focus (exact sd1))) | ((with_reducible apply r_end); focus (exact sd4)) | ((with_reducible (first | apply r_move | apply r_assign)); (focus (simp only [Tget_set, Nat.reduceEqDiff, ↓reduceIte, u7] <;> rfl)); (focus (exact sd7))) | ((with_reducible apply r_condT); (focus (exact sd3))) | ((with_reducible apply r_gT); (focus (exact sd5)); (focus rfl); (focus (exact sd3))) | ((with_reducible (first | apply r_any | apply r_cond)); focus (simp only [↓reduceIte, clsOf, clsCall, Fr.ev, ofV, ofA, ofS, put_mk, ky_inj, pureOp, readOp, pFA, pFA1, pFA2, rLd, rdAB_row, oneCell_one, hget_same, hget_hset_ite, pBin, binA, intOp_lss, pPick, List.length_cons, List.length_nil, List.getElem?_cons_zero, List.getElem?_cons_succ, List.drop_zero, List.drop_succ_cons, List.take_succ_cons, List.take_zero, Nat.zero_add, Nat.reduceAdd, Nat.reduceLT, Nat.reduceLeDiff, Nat.reduceEqDiff, Nat.add_eq, loadA_w, loadW_s, binA, stepOp, stV_mk, sz23, ag23, Tryz.underlying25, stepAny, wantedA_none, rCall, rLen, Tget_set, u2, u3, lA, lB, lt_t iA, lt_t iB, intOp_add (show inR ((i : Int) + 1) by unfold inR; omega)] <;> rfl)) | (with_reducible rw [ifQ_t]) | (with_reducible rw [ifQ_f]) | (with_reducible refine ifQ_intro ?_ ?_ <;> intro hb))
      refine r_rq_n (k := mn - (i + 1)) (by omega) ⟨_, _, i + 1, rfl, rfl, by omega, rfl, by omega, fun j hj => ?_, (by first | (simp only [Tget_set, Nat.reduceEqDiff, ↓reduceIte, u2] <;> rfl) | rfl), (by first | (simp only [Tget_set, Nat.reduceEqDiff, ↓reduceIte, u3] <;> rfl) | rfl), (by first | (simp only [Tget_set, Nat.reduceEqDiff, ↓reduceIte, u4] <;> rfl) | rfl), (by first | (simp only [Tget_set, ↓reduceIte] <;> rfl) | rfl)⟩
      by_cases hji : j < i
      · exact hI j hji
      · obtain rfl : j = i := by omega
        obtain ⟨e1, e2, e3, e4, e5⟩ := hc
        rw [z1, z2, e1, e2, e3, e4, e5]; rfl
    · have hd := dec_f hc
      have hz2 : (resZ X Y)[i]? = (resZ X2 Y2)[i]? := by rw [hz]
      rw [z1, z2] at hz2
      exact absurd (by simpa [and_assoc] using hz2) hc
  · have hend : i = mn := by omega
    have hne1 := lt_f (show ¬ X.length < X2.length by omega)
    have hne2 := lt_f (show ¬ X2.length < X.length by omega)
    repeat' (first | with_reducible (first | refine r_seq ?_ | refine r_next ?_ | refine r_block ?_ | refine r_seq_exit ?_ | refine r_seq_ret ?_ | refine r_blk_n ?_ | refine r_blk_ret ?_ | refine r_blk_hit ?_ | refine r_blk_miss rfl ?_ | refine r_skip ?_ | refine r_exit ?_ | refine r_ret ?_ | refine r_rq_exit ?_ | refine r_rq_ret ?_) | ((with_reducible apply r_regA); (focus (exact sd2)); (focus (exact sd1))) | ((with_reducible refine r_reg (List.toList_toArray) ?_ ?_); focus (exact sd1)) | ((with_reducible apply r_drawL); (focus kernel_rfl); (focus kernel_rfl); (focus (exact sd1))) | ((with_reducible apply r_end); focus (exact sd4)) | ((with_reducible (first | apply r_move | apply r_assign)); (focus (simp only [Tget_set, ↓reduceIte, u7] <;> rfl)); (focus (exact sd7))) | ((with_reducible apply r_condT); (focus (exact sd3))) | ((with_reducible apply r_gT); (focus (exact sd5)); (focus rfl); (focus (exact sd3))) | ((with_reducible (first | apply r_any | apply r_cond)); focus (simp only [↓reduceIte, wantedA_eq, gBool_t, clsOf, clsCall, Fr.ev, evs, ofV, ofA, ofS, put_mk, ky_inj, pureOp, readOp, pFA, pFA1, pFA2, rLd, rdAB_row, oneCell_one, hget_same, hget_hset_ite, pBin, binA, intOp_lss, pPick, List.length_cons, List.length_nil, List.getElem?_cons_zero, List.getElem?_cons_succ, List.drop_zero, List.drop_succ_cons, List.take_succ_cons, List.take_zero, Nat.zero_add, Nat.reduceAdd, Nat.reduceLT, Nat.reduceLeDiff, Nat.reduceEqDiff, Nat.add_eq, loadA_w, loadW_s, callTo_s, heavyCall, target, List.nil_append, List.append_nil, binA, stepOp, stHeavy, stV_mk, sz22, ag22, sz23, ag23, Tryz.underlying25, stepAny, wantedA_none, rCall, rLen, Tget_set, u2, u3, lA, lB, lt_f (show ¬ i < X.length by omega), hne1, hne2] <;> rfl)) | (with_reducible rw [ifQ_t]) | (with_reducible rw [ifQ_f]) | (with_reducible refine ifQ_intro ?_ ?_ <;> intro hb))
    refine r_callC (S := SD) (f := 25) (by first | rfl | (simp only [wantedA_none, Tget_set])) (by simp only [callOuts, callTo_s, target, evs, Fr.ev, Tget_set, ↓reduceIte, List.nil_append, List.append_nil]; exact kc_miss rfl) ?_ ?_
    · exact linesBQ (hSA.same S0') rSA lSA
    intro o ho
    obtain ⟨v, h2, rfl, hp, hl, hs⟩ := ho A (hSA.same S0') rSA lSA
    refine ⟨_, by simp only [put_mk, Nat.reduceLT, ↓reduceIte] <;> rfl, ?_⟩
    have low2 : Low F h h2 := low0.trans (hl.down (by show F ≤ F + 1; omega))
    have S2 := low2.same hw
    have ca : hget h2 (ky F 1) = some (mkRow [.int .i64 e2, sb, rb, .int .i64 p2] 0) := by
      rw [hl.own (by show F < F + 1; omega) (by decide)]
      show hget (hset (hset (hset h (ky F 0) (mkRow [.int .i64 e1, sa, ra, .int .i64 p1] 0)) (ky F 1) (mkRow [.int .i64 e2, sb, rb, .int .i64 p2] 0)) (ky F 2) (mkRow [.int .i64 0, .int .i64 0, .int .i64 0] 0)) _ = _
      rw [hget_hset, if_neg (by rw [ky_inj]; omega), hget_hset, if_pos rfl]
    have cb : hget h2 (ky F 2) = some (mkRow [.int .i64 0, .int .i64 0, .int .i64 0] 0) := by
      rw [hl.own (by show F < F + 1; omega) (by decide)]
      show hget (hset (hset (hset h (ky F 0) (mkRow [.int .i64 e1, sa, ra, .int .i64 p1] 0)) (ky F 1) (mkRow [.int .i64 e2, sb, rb, .int .i64 p2] 0)) (ky F 2) (mkRow [.int .i64 0, .int .i64 0, .int .i64 0] 0)) _ = _
      rw [hget_hset, if_pos rfl]
    repeat' (first | with_reducible (first | refine r_seq ?_ | refine r_next ?_ | refine r_block ?_ | refine r_seq_exit ?_ | refine r_seq_ret ?_ | refine r_blk_n ?_ | refine r_blk_ret ?_ | refine r_blk_hit ?_ | refine r_blk_miss rfl ?_ | refine r_skip ?_ | refine r_exit ?_ | refine r_ret ?_ | refine r_rq_exit ?_ | refine r_rq_ret ?_) | ((with_reducible apply r_regA); (focus (exact sd2)); (focus (exact sd1))) | ((with_reducible refine r_reg (List.toList_toArray) ?_ ?_); focus (exact sd1)) | ((with_reducible apply r_drawL); (focus kernel_rfl); (focus kernel_rfl); (focus (exact sd1))) | ((with_reducible apply r_end); focus (exact sd4)) | ((with_reducible (first | apply r_move | apply r_assign)); (focus (exact sd3)); (focus (exact sd7))) | ((with_reducible apply r_condT); (focus (simp only [Tget_set, T.get_n, T.get_e, Nat.reduceEqDiff, Nat.reduceDiv, Nat.reduceMod, Nat.reduceSub, ↓reduceIte, if_true, if_false, u2, u3, u4] <;> rfl))) | ((with_reducible apply r_gT); (focus (exact sd5)); (focus rfl); (focus (exact sd3))) | ((with_reducible (first | apply r_any | apply r_cond)); focus (simp only [↓reduceIte, clsOf, clsCall, Fr.ev, evs, put_mk, pureOp, readOp, pFA, pFA1, pFA2, rLd, rdAB_row, oneCell_one, List.length_cons, List.length_nil, List.getElem?_cons_zero, List.getElem?_cons_succ, List.drop_zero, List.drop_succ_cons, List.take_succ_cons, List.take_zero, Nat.zero_add, Nat.reduceAdd, Nat.reduceLT, Nat.reduceLeDiff, Nat.reduceEqDiff, Nat.add_eq, loadA_w, loadW_s, callTo_s, heavyCall, target, List.nil_append, List.append_nil, stepOp, stHeavy, stV_mk, sz22, ag22, Tryz.underlying25, stepAny, wantedA_none, Tget_set, u3, ca] <;> rfl)) | (with_reducible rw [ifQ_t]) | (with_reducible rw [ifQ_f]) | (with_reducible refine ifQ_intro ?_ ?_ <;> intro hb))
    refine r_callC (S := SD) (f := 25) (by first | rfl | (simp only [wantedA_none, Tget_set])) (by simp only [callOuts, callTo_s, target, evs, Fr.ev, Tget_set, ↓reduceIte, List.nil_append, List.append_nil]; exact kc_miss rfl) ?_ ?_
    · exact linesBQ (hSB.same S2) rSB lSB
    intro o ho
    obtain ⟨v2, h3, rfl, hp2, hl2, hs2⟩ := ho B (hSB.same S2) rSB lSB
    refine ⟨_, by simp only [put_mk, Nat.reduceLT, ↓reduceIte] <;> rfl, ?_⟩
    have low3 : Low F h h3 := low2.trans (hl2.down (by show F ≤ F + 1 + 1; omega))
    have S3 := low3.same hw
    have hp3 := hp.move (EqI.call (EqI.refl _ _ _) hl2 (Nat.le_refl _))
    have c2 : hget h3 (ky F 2) = some (mkRow [.int .i64 0, .int .i64 0, .int .i64 0] 0) := by
      rw [hl2.own (by show F < F + 1 + 1; omega) (by decide)]
      show hget h2 _ = _
      exact cb
    have lP := fun (h4 : Heap) => rLen1_L (h2 := h4) (P := Tryz.prog) (t := 68) Tryz.underlying68 hp3.p
    have lP2 := fun (h4 : Heap) => rLen1_L (h2 := h4) (P := Tryz.prog) (t := 68) Tryz.underlying68 hp2.p
    rw [tL_len] at lP lP2
    obtain ⟨m2, hm2⟩ : ∃ mn, mn = min (lnL A).length (lnL B).length := ⟨_, rfl⟩
    repeat' (first | with_reducible (first | refine r_seq ?_ | refine r_next ?_ | refine r_block ?_ | refine r_seq_exit ?_ | refine r_seq_ret ?_ | refine r_blk_n ?_ | refine r_blk_ret ?_ | refine r_blk_hit ?_ | refine r_blk_miss rfl ?_ | refine r_skip ?_ | refine r_exit ?_ | refine r_ret ?_ | refine r_rq_exit ?_ | refine r_rq_ret ?_) | ((with_reducible apply r_regA); (focus (exact sd2)); (focus (exact sd1))) | ((with_reducible refine r_reg (List.toList_toArray) ?_ ?_); focus (exact sd1)) | ((with_reducible apply r_drawL); (focus kernel_rfl); (focus kernel_rfl); (focus (exact sd1))) | ((with_reducible apply r_end); focus (exact sd4)) | ((with_reducible (first | apply r_move | apply r_assign)); (focus (exact sd3)); (focus (exact sd7))) | ((with_reducible apply r_condT); (focus (simp only [Tget_set, T.get_n, T.get_e, Nat.reduceEqDiff, Nat.reduceDiv, Nat.reduceMod, Nat.reduceSub, ↓reduceIte, if_true, if_false, u2, u3, u4] <;> rfl))) | ((with_reducible apply r_gT); (focus (exact sd5)); (focus rfl); (focus (exact sd3))) | ((with_reducible (first | apply r_any | apply r_cond)); focus (simp only [↓reduceIte, clsOf, Fr.ev, ofV, ofA, ofS, put_mk, pureOp, Nat.reduceLT, stepOp, stV_mk, stepAny, wantedA_none] <;> rfl)) | (with_reducible rw [ifQ_t]) | (with_reducible rw [ifQ_f]) | (with_reducible refine ifQ_intro ?_ ?_ <;> intro hb))
    refine r_loop (I := fun nn fr s1 => ∃ lc tt i, fr = ⟨F, lc, 123, tt, [], .no⟩ ∧ s1 = ⟨h3, F + 1 + 1 + 1⟩ ∧ i ≤ m2 ∧ nn = m2 - i ∧ lc + nn * 1000 ≤ 1000000000000000000000000000 ∧ (∀ j : Nat, j < i → (lnL A)[j]? = (lnL B)[j]?) ∧ tt.get 4 = some (.ptr (ky F 2) 0) ∧ tt.get 8 = some v ∧ tt.get 9 = some v2 ∧ tt.get 10 = some (.int .i64 (i : Int))) (n := m2) ?_ ?_ ?_
    · omega
    · exact ⟨_, _, 0, rfl, rfl, Nat.zero_le _, (Nat.sub_zero _).symm, by omega, fun j hj => absurd hj (Nat.not_lt_zero _), (by first | (simp only [Tget_set, Nat.reduceEqDiff, ↓reduceIte, u4] <;> rfl) | rfl), (by first | (simp only [Tget_set, Nat.reduceEqDiff, ↓reduceIte] <;> rfl) | rfl), (by first | (simp only [Tget_set, Nat.reduceEqDiff, ↓reduceIte] <;> rfl) | rfl), (by first | (simp only [Tget_set, ↓reduceIte] <;> rfl) | rfl)⟩
    rintro nn fr s1 ⟨lc, tt, i, rfl, rfl, hi, rfl, hlc, hI, u4, u8, u9, u10⟩
    by_cases hiA : i < (lnL A).length
    · obtain ⟨t, ht⟩ : ∃ t, (lnL A)[i]? = some t := ⟨(lnL A)[i], by simp⟩
      obtain ⟨b, o, eo, cap, ev, hr⟩ := txI_at hp3 ht
      have gA : decide (((lnL A).length : Int) ≤ (i : Int)) = false := decide_eq_false (by omega)
      rw [ev] at u8
      by_cases hiB : i < (lnL B).length
      · obtain ⟨u, hu⟩ : ∃ t, (lnL B)[i]? = some t := ⟨(lnL B)[i], by simp⟩
        obtain ⟨b2, o2, eo2, cap2, ev2, hr2⟩ := txI_at hp2 hu
        have gB : decide (((lnL B).length : Int) ≤ (i : Int)) = false := decide_eq_false (by omega)
        rw [ev2] at u9
        by_cases htu : t = u
        · subst htu
          have hne := str_neq_f t
          repeat' (first | with_reducible (first | refine r_seq ?_ | refine r_next ?_ | refine r_block ?_ | refine r_seq_exit ?_ | refine r_seq_ret ?_ | refine r_blk_n ?_ | refine r_blk_ret ?_ | refine r_blk_hit ?_ | refine r_blk_miss rfl ?_ | refine r_skip ?_ | refine r_exit ?_ | refine r_ret ?_ | refine r_rq_exit ?_ | refine r_rq_ret ?_) | ((with_reducible apply r_regA); (focus (exact sd2)); (focus (exact sd1))) | ((with_reducible refine r_reg (List.toList_toArray) ?_ ?_); focus (exact sd1)) | ((with_reducible apply (r_drawW (js := [0, 1, 2, 3, 4, 5, 6, 7, 8, 9, 10, 11, 12, 13, 14, 15, 16, 17, 18, 19, 20]))); (focus kernel_rfl); (focus kernel_rfl); (focus (exact sd1))) | ((with_reducible apply d_end); (focus (simp only [List.length_cons, List.length_nil, Nat.add_assoc, Nat.reduceAdd, Nat.zero_add] <;> rfl))) | ((with_reducible apply d_any); (focus rfl); (iterate 2 (focus (simp only [↓reduceIte, wantedA_eq, gBool_f, Bool.not_false, clsOf, clsCall, Fr.ev, put_mk, pureOp, readOp, rLd, oneCell_one, pBin, binA, intOp_geq, pPick, List.getElem?_cons_zero, List.getElem?_cons_succ, Nat.reduceLT, Nat.reduceEqDiff, loadA_w, loadW_s, binA, stepOp, stV_mk, sz9, ag9, Tryz.underlying68, stepAny, wantedA_none, readSelf, av_str, av_int, rCall, rLen, rLen1_sl, lenA, Tget_set, u8, u9, u10, pIA_s Tryz.underlying68 sz9 hiA, pIA_s Tryz.underlying68 sz9 hiB, hr, hr2, gA, gB, hne] <;> rfl))); (focus (first | exact SameH.refl _ | (simp only [sameT, sameS hw]; done)))) | ((with_reducible apply r_drawL); (focus kernel_rfl); (focus kernel_rfl); (focus (exact sd1))) | ((with_reducible apply r_end); focus (exact sd4)) | ((with_reducible (first | apply r_move | apply r_assign)); (focus (simp only [Tget_set, Nat.reduceEqDiff, ↓reduceIte, u8, u10] <;> rfl)); (focus (exact sd7))) | ((with_reducible apply r_condT); (focus (exact sd3))) | ((with_reducible apply r_gT); (focus (exact sd5)); (focus rfl); (focus (exact sd3))) | ((with_reducible (first | apply r_any | apply r_cond)); focus (simp only [↓reduceIte, wantedA_eq, gBool_f, Bool.not_true, clsOf, clsCall, Fr.ev, ofV, ofA, ofS, put_mk, pureOp, readOp, pBin, binA, intOp_lss, pPick, List.getElem?_cons_zero, List.getElem?_cons_succ, Nat.reduceLT, Nat.reduceEqDiff, binA, stepOp, stV_mk, Tryz.underlying68, stepAny, wantedA_none, rCall, rLen, rLen1_sl, lenA, Tget_set, lt_t hiA, intOp_add (show inR ((i : Int) + 1) by unfold inR; omega)] <;> rfl)) | (with_reducible rw [ifQ_t]) | (with_reducible rw [ifQ_f]) | (with_reducible refine ifQ_intro ?_ ?_ <;> intro hb))
          refine r_rq_n (k := m2 - (i + 1)) (by omega) ⟨_, _, i + 1, rfl, rfl, by omega, rfl, by omega, fun j hj => ?_, (by first | (simp only [Tget_set, Nat.reduceEqDiff, ↓reduceIte, u4] <;> rfl) | rfl), (by first | (simp only [Tget_set, Nat.reduceEqDiff, ↓reduceIte, u8, ev] <;> rfl) | rfl), (by first | (simp only [Tget_set, Nat.reduceEqDiff, ↓reduceIte, u9, ev2] <;> rfl) | rfl), (by first | (simp only [Tget_set, ↓reduceIte] <;> rfl) | rfl)⟩
          by_cases hji : j < i
          · exact hI j hji
          · obtain rfl : j = i := by omega
            rw [ht, hu]
        · have hne := str_neq_t htu
          repeat' (first | with_reducible (first | refine r_seq ?_ | refine r_next ?_ | refine r_block ?_ | refine r_seq_exit ?_ | refine r_seq_ret ?_ | refine r_blk_n ?_ | refine r_blk_ret ?_ | refine r_blk_hit ?_ | refine r_blk_miss rfl ?_ | refine r_skip ?_ | refine r_exit ?_ | refine r_ret ?_ | refine r_rq_exit ?_ | refine r_rq_ret ?_) | ((with_reducible apply r_regA); (focus (exact sd2)); (focus (exact sd1))) | ((with_reducible refine r_reg (List.toList_toArray) ?_ ?_); focus (exact sd1)) | ((with_reducible apply (r_drawW (js := [0, 1, 2, 3, 4, 5, 6, 7, 8, 9, 10, 11, 12, 13, 14, 15, 16, 17, 18, 19, 20]))); (focus kernel_rfl); (focus kernel_rfl); (focus (exact sd1))) | ((with_reducible apply d_end); (focus (simp only [List.length_cons, List.length_nil, Nat.add_assoc, Nat.reduceAdd, Nat.zero_add] <;> rfl))) | ((with_reducible apply d_any); (focus rfl); (iterate 2 (focus (simp only [↓reduceIte, wantedA_eq, gBool_f, Bool.not_false, clsOf, clsCall, Fr.ev, put_mk, pureOp, readOp, rLd, oneCell_one, pBin, binA, intOp_geq, pPick, List.getElem?_cons_zero, List.getElem?_cons_succ, Nat.reduceLT, Nat.reduceEqDiff, loadA_w, loadW_s, binA, stepOp, stV_mk, sz9, ag9, Tryz.underlying68, stepAny, wantedA_none, readSelf, av_str, av_int, rCall, rLen, rLen1_sl, lenA, Tget_set, u8, u9, u10, pIA_s Tryz.underlying68 sz9 hiA, pIA_s Tryz.underlying68 sz9 hiB, hr, hr2, gA, gB, hne] <;> rfl))); (focus (first | exact SameH.refl _ | (simp only [sameT, sameS hw]; done)))) | ((with_reducible apply r_drawL); (focus kernel_rfl); (focus kernel_rfl); (focus (exact sd1))) | ((with_reducible apply r_end); focus (exact sd4)) | ((with_reducible (first | apply r_move | apply r_assign)); (focus (simp only [Tget_set, Nat.reduceEqDiff, ↓reduceIte, u8, u10] <;> rfl)); (focus (exact sd7))) | ((with_reducible apply r_condT); (focus (exact sd3))) | ((with_reducible apply r_gT); (focus (exact sd5)); (focus rfl); (focus (exact sd3))) | ((with_reducible (first | apply r_any | apply r_cond)); focus (simp only [↓reduceIte, wantedA_eq, gBool_f, Bool.not_true, clsOf, clsCall, Fr.ev, evParts, ofV, ofA, ofS, AV.cells, put_mk, put_none, pureOp, readOp, someAgg_s, pBin, binA, intOp_lss, pPick, List.length_cons, List.length_nil, List.getElem?_cons_zero, List.getElem?_cons_succ, Nat.zero_add, Nat.reduceAdd, Nat.reduceLT, Nat.reduceLeDiff, Nat.reduceEqDiff, and_self, aSt_w, stOut_s, wrAB_row, ovr, List.set_cons_zero, List.set_cons_succ, allCell, ic_i, actOp, pBuild, pBuild2, fieldsOk, buildParts, binA, stepOp, stHeavy, stV_mk, stO_mk, sz2, sz3, sz31, zr31, Tryz.underlying31, Tryz.underlying68, stepAny, wantedA_none, rCall, rLen, rLen1_sl, lenA, Tget_set, u4, lt_t hiA, c2, listC_eq, fill3_0, fill3_2, b31, b33, List.length_cons, List.length_nil, Nat.reduceAdd, someAgg_s] <;> rfl)) | (with_reducible rw [ifQ_t]) | (with_reducible rw [ifQ_f]) | (with_reducible refine ifQ_intro ?_ ?_ <;> intro hb))
          subst hQ
          refine ret_back (by simp only [Tryz.results7, resultOf, resultsA, resultA, List.toList_toArray, Fr.ev, Tget_set, Nat.reduceEqDiff, ↓reduceIte, loadA_w, loadW_a, rdAB_row, hget_same, someAgg_s, List.length_cons, List.length_nil, Nat.reduceLeDiff, Nat.reduceAdd, Nat.zero_add, List.drop_zero, List.take_succ_cons, List.take_zero, u4, ag31, sz31] <;> rfl) ?_
          have e1 : fd (lnL A) (lnL B) = i := fd_is i _ _ (by omega) (by omega) hI (.inr (.inr (by rw [ht, hu]; intro e; exact htu (by simpa using e))))
          have hAB : ¬ A = B := fun e => htu (by subst e; rw [ht] at hu; exact Option.some.inj hu)
          exact ⟨_, out_eq (by rw [difV_D hE h0 hAB, e1]; rfl), SameH.hset hw S3 (ky_le _ _)⟩
      · have gB : decide (((lnL B).length : Int) ≤ (i : Int)) = true := decide_eq_true (by omega)
        repeat' (first | with_reducible (first | refine r_seq ?_ | refine r_next ?_ | refine r_block ?_ | refine r_seq_exit ?_ | refine r_seq_ret ?_ | refine r_blk_n ?_ | refine r_blk_ret ?_ | refine r_blk_hit ?_ | refine r_blk_miss rfl ?_ | refine r_skip ?_ | refine r_exit ?_ | refine r_ret ?_ | refine r_rq_exit ?_ | refine r_rq_ret ?_) | ((with_reducible apply r_regA); (focus (exact sd2)); (focus (exact sd1))) | ((with_reducible refine r_reg (List.toList_toArray) ?_ ?_); focus (exact sd1)) | ((with_reducible apply (r_drawW (js := [0, 1, 2, 3, 4, 5, 6, 7, 8, 9, 10, 11, 12, 13, 14, 15, 16, 17, 18, 19, 20]))); (focus kernel_rfl); (focus kernel_rfl); (focus (exact sd1))) | ((with_reducible apply d_end); (focus (simp only [List.length_cons, List.length_nil, Nat.add_assoc, Nat.reduceAdd, Nat.zero_add] <;> rfl))) | ((with_reducible apply d_any); (focus rfl); (iterate 2 (focus (simp only [↓reduceIte, wantedA_eq, gBool_f, Bool.not_true, Bool.not_false, clsOf, clsCall, Fr.ev, ofV, ofA, ofS, put_mk, pureOp, readOp, pBin, binA, intOp_geq, pPick, List.getElem?_cons_zero, List.getElem?_cons_succ, Nat.reduceLT, Nat.reduceEqDiff, binA, stepOp, stV_mk, Tryz.underlying68, stepAny, wantedA_none, readSelf, av_int, rCall, rLen, rLen1_sl, lenA, Tget_set, u8, u9, u10, lP2, gA, gB] <;> rfl))); (focus (first | exact SameH.refl _ | (simp only [sameT, sameS hw]; done)))) | ((with_reducible apply r_drawL); (focus kernel_rfl); (focus kernel_rfl); (focus (exact sd1))) | ((with_reducible apply r_end); focus (exact sd4)) | ((with_reducible (first | apply r_move | apply r_assign)); (focus (simp only [Tget_set, Nat.reduceEqDiff, ↓reduceIte, u8, u10] <;> rfl)); (focus (exact sd7))) | ((with_reducible apply r_condT); (focus (exact sd3))) | ((with_reducible apply r_gT); (focus (exact sd5)); (focus rfl); (focus (exact sd3))) | ((with_reducible (first | apply r_any | apply r_cond)); focus (simp only [↓reduceIte, wantedA_eq, gBool_f, Bool.not_true, clsOf, clsCall, Fr.ev, evParts, ofV, ofA, ofS, AV.cells, put_mk, put_none, pureOp, readOp, someAgg_s, pBin, binA, intOp_lss, pPick, List.length_cons, List.length_nil, List.getElem?_cons_zero, List.getElem?_cons_succ, Nat.zero_add, Nat.reduceAdd, Nat.reduceLT, Nat.reduceLeDiff, Nat.reduceEqDiff, and_self, aSt_w, stOut_s, wrAB_row, ovr, List.set_cons_zero, List.set_cons_succ, allCell, ic_i, actOp, pBuild, pBuild2, fieldsOk, buildParts, binA, stepOp, stHeavy, stV_mk, stO_mk, sz2, sz3, sz31, zr31, Tryz.underlying31, Tryz.underlying68, stepAny, wantedA_none, rCall, rLen, rLen1_sl, lenA, Tget_set, u4, lt_t hiA, c2, listC_eq, fill3_0, fill3_2, b31, b33, List.length_cons, List.length_nil, Nat.reduceAdd, someAgg_s] <;> rfl)) | (with_reducible rw [ifQ_t]) | (with_reducible rw [ifQ_f]) | (with_reducible refine ifQ_intro ?_ ?_ <;> intro hb))
        subst hQ
        refine ret_back (by simp only [Tryz.results7, resultOf, resultsA, resultA, List.toList_toArray, Fr.ev, Tget_set, Nat.reduceEqDiff, ↓reduceIte, loadA_w, loadW_a, rdAB_row, hget_same, someAgg_s, List.length_cons, List.length_nil, Nat.reduceLeDiff, Nat.reduceAdd, Nat.zero_add, List.drop_zero, List.take_succ_cons, List.take_zero, u4, ag31, sz31] <;> rfl) ?_
        have e1 : fd (lnL A) (lnL B) = i := fd_is i _ _ (by omega) (by omega) hI (by omega)
        have hAB : ¬ A = B := fun e => by subst e; exact hiB hiA
        exact ⟨_, out_eq (by rw [difV_D hE h0 hAB, e1]; rfl), SameH.hset hw S3 (ky_le _ _)⟩
    · have gA : decide (((lnL A).length : Int) ≤ (i : Int)) = true := decide_eq_true (by omega)
      by_cases hiB : i < (lnL B).length
      · repeat' (first | with_reducible (first | refine r_seq ?_ | refine r_next ?_ | refine r_block ?_ | refine r_seq_exit ?_ | refine r_seq_ret ?_ | refine r_blk_n ?_ | refine r_blk_ret ?_ | refine r_blk_hit ?_ | refine r_blk_miss rfl ?_ | refine r_skip ?_ | refine r_exit ?_ | refine r_ret ?_ | refine r_rq_exit ?_ | refine r_rq_ret ?_) | ((with_reducible apply r_regA); (focus (exact sd2)); (focus (exact sd1))) | ((with_reducible refine r_reg (List.toList_toArray) ?_ ?_); focus (exact sd1)) | ((with_reducible apply (r_drawW (js := [0, 1, 2, 3, 4, 5, 6, 7, 8, 9, 10, 11, 12, 13, 14, 15, 16, 17, 18, 19, 20]))); (focus kernel_rfl); (focus kernel_rfl); (focus (exact sd1))) | ((with_reducible apply d_end); (focus (simp only [List.length_cons, List.length_nil, Nat.add_assoc, Nat.reduceAdd, Nat.zero_add] <;> rfl))) | ((with_reducible apply d_any); (focus rfl); (iterate 2 (focus (simp only [↓reduceIte, wantedA_eq, gBool_f, Bool.not_true, clsOf, clsCall, Fr.ev, ofV, ofA, ofS, put_mk, pureOp, readOp, pBin, binA, intOp_geq, pPick, List.getElem?_cons_zero, List.getElem?_cons_succ, Nat.reduceLT, Nat.reduceEqDiff, binA, stepOp, stV_mk, stepAny, wantedA_none, readSelf, av_int, rCall, rLen, Tget_set, u8, u10, lP, gA] <;> rfl))); (focus (first | exact SameH.refl _ | (simp only [sameT, sameS hw]; done)))) | ((with_reducible apply r_drawL); (focus kernel_rfl); (focus kernel_rfl); (focus (exact sd1))) | ((with_reducible apply r_end); focus (exact sd4)) | ((with_reducible (first | apply r_move | apply r_assign)); (focus (simp only [Tget_set, Nat.reduceEqDiff, ↓reduceIte, u8, u9, u10] <;> rfl)); (focus (exact sd7))) | ((with_reducible apply r_condT); (focus (exact sd3))) | ((with_reducible apply r_gT); (focus (exact sd5)); (focus rfl); (focus (exact sd3))) | ((with_reducible (first | apply r_any | apply r_cond)); focus (simp only [↓reduceIte, clsOf, clsCall, Fr.ev, evParts, ofV, ofA, ofS, AV.cells, put_mk, put_none, pureOp, readOp, someAgg_s, pBin, binA, intOp_lss, pPick, List.length_cons, List.length_nil, List.getElem?_cons_zero, List.getElem?_cons_succ, Nat.zero_add, Nat.reduceAdd, Nat.reduceLT, Nat.reduceLeDiff, Nat.reduceEqDiff, and_self, aSt_w, stOut_s, wrAB_row, ovr, List.set_cons_zero, List.set_cons_succ, allCell, ic_i, actOp, pBuild, pBuild2, fieldsOk, buildParts, binA, stepOp, stHeavy, stV_mk, stO_mk, sz2, sz3, sz31, zr31, Tryz.underlying31, stepAny, wantedA_none, rCall, rLen, Tget_set, u4, lt_f hiA, lt_t hiB, lP, lP2, c2, listC_eq, fill3_0, fill3_2, b31, b33, List.length_cons, List.length_nil, Nat.reduceAdd, someAgg_s] <;> rfl)) | (with_reducible rw [ifQ_t]) | (with_reducible rw [ifQ_f]) | (with_reducible refine ifQ_intro ?_ ?_ <;> intro hb))
        subst hQ
        refine ret_back (by simp only [Tryz.results7, resultOf, resultsA, resultA, List.toList_toArray, Fr.ev, Tget_set, Nat.reduceEqDiff, ↓reduceIte, loadA_w, loadW_a, rdAB_row, hget_same, someAgg_s, List.length_cons, List.length_nil, Nat.reduceLeDiff, Nat.reduceAdd, Nat.zero_add, List.drop_zero, List.take_succ_cons, List.take_zero, u4, ag31, sz31] <;> rfl) ?_
        have e1 : fd (lnL A) (lnL B) = i := fd_is i _ _ (by omega) (by omega) hI (by omega)
        have hAB : ¬ A = B := fun e => by subst e; exact hiA hiB
        exact ⟨_, out_eq (by rw [difV_D hE h0 hAB, e1]; rfl), SameH.hset hw S3 (ky_le _ _)⟩
      · repeat' (first | with_reducible (first | refine r_seq ?_ | refine r_next ?_ | refine r_block ?_ | refine r_seq_exit ?_ | refine r_seq_ret ?_ | refine r_blk_n ?_ | refine r_blk_ret ?_ | refine r_blk_hit ?_ | refine r_blk_miss rfl ?_ | refine r_skip ?_ | refine r_exit ?_ | refine r_ret ?_ | refine r_rq_exit ?_ | refine r_rq_ret ?_) | ((with_reducible apply r_regA); (focus (exact sd2)); (focus (exact sd1))) | ((with_reducible refine r_reg (List.toList_toArray) ?_ ?_); focus (exact sd1)) | ((with_reducible apply r_drawL); (focus kernel_rfl); (focus kernel_rfl); (focus (exact sd1))) | ((with_reducible apply r_end); focus (exact sd4)) | ((with_reducible (first | apply r_move | apply r_assign)); (focus (simp only [Tget_set, Nat.reduceEqDiff, ↓reduceIte, u8, u9, u10] <;> rfl)); (focus (exact sd7))) | ((with_reducible apply r_condT); (focus (exact sd3))) | ((with_reducible apply r_gT); (focus (exact sd5)); (focus rfl); (focus (exact sd3))) | ((with_reducible (first | apply r_any | apply r_cond)); focus (simp only [↓reduceIte, clsOf, clsCall, Fr.ev, evParts, ofV, ofA, ofS, AV.cells, put_mk, put_none, pureOp, readOp, someAgg_s, pBin, binA, intOp_lss, pPick, List.length_cons, List.length_nil, List.getElem?_cons_zero, Nat.zero_add, Nat.reduceAdd, Nat.reduceLT, Nat.reduceLeDiff, Nat.reduceEqDiff, and_self, aSt_w, stOut_s, wrAB_row, ovr, List.set_cons_zero, List.set_cons_succ, allCell, ic_i, actOp, pBuild, pBuild2, fieldsOk, buildParts, binA, stepOp, stHeavy, stV_mk, stO_mk, sz2, sz3, sz31, zr31, Tryz.underlying31, stepAny, wantedA_none, rCall, rLen, Tget_set, u4, lt_f hiA, lt_f hiB, lP, lP2, c2, List.length_cons, List.length_nil, Nat.reduceAdd, someAgg_s] <;> rfl)) | (with_reducible rw [ifQ_t]) | (with_reducible rw [ifQ_f]) | (with_reducible refine ifQ_intro ?_ ?_ <;> intro hb))
        subst hQ
        refine ret_back (by simp only [Tryz.results7, resultOf, resultsA, resultA, List.toList_toArray, Fr.ev, Tget_set, Nat.reduceEqDiff, ↓reduceIte, loadA_w, loadW_a, rdAB_row, hget_same, someAgg_s, List.length_cons, List.length_nil, Nat.reduceLeDiff, Nat.reduceAdd, Nat.zero_add, List.drop_zero, List.take_succ_cons, List.take_zero, u4, ag31, sz31] <;> rfl) ?_
        have hAB : A = B := lnL_inj (List.ext_getElem? fun j => by
          by_cases hj : j < i
          · exact hI j hj
          · rw [List.getElem?_eq_none (by omega), List.getElem?_eq_none (by omega)])
        exact ⟨_, out_eq (by rw [difV_C hE h0 hAB]; rfl), SameH.hset hw S3 (ky_le _ _)⟩
  
set_option maxHeartbeats 2000000 in
theorem differB (h : Heap) (F : Nat) (e1 e2 p1 p2 : Int) (sa sb ra rb : AV) (A B : Tx) (X X2 : List (List AV)) (Y Y2 : List (List (List AV))) (hSA : BytP h sa A) (hSB : BytP h sb B) (rSA : RoomA sa) (rSB : RoomA sb) (lSA : A.length ≤ 50000) (lSB : B.length ≤ 50000) (hRA : RowN h ksR 4 ksV ra X Y) (hRB : RowN h ksR 4 ksV rb X2 Y2) (rRA : RoomA ra) (rRB : RoomA rb) : Snd Tryz.prog GL 7 [.agg [.int .i64 e1, sa, ra, .int .i64 p1], .agg [.int .i64 e2, sb, rb, .int .i64 p2]] ⟨h, F⟩ [.val (difA (difV e1 e2 A B X X2 Y Y2)) ⟨h, F⟩] := by
  by_cases hD : e1 = e2 ∧ ¬ 0 ≤ firstI X X2 Y Y2
  · exact differB2 h F e1 e2 p1 p2 sa sb ra rb A B X X2 Y Y2 hSA hSB rSA rSB lSA lSB hRA hRB rRA rRB hD.1 hD.2
  · exact differB1 h F e1 e2 p1 p2 sa sb ra rb A B X X2 Y Y2 hSA hSB rSA rSB lSA lSB hRA hRB rRA rRB hD
section
variable {S : FuncId → List AV → St → Out → Prop}
theorem k_differB {h h1 : Heap} {F : Nat} {e1 e2 p1 p2 : Int} {sa sb ra rb : AV} {A B : Tx} {X X2 : List (List AV)} {Y Y2 : List (List (List AV))} (hSA : BytP h sa A) (hSB : BytP h sb B) (rSA : RoomA sa) (rSB : RoomA sb) (lSA : A.length ≤ 50000) (lSB : B.length ≤ 50000) (hRA : RowN h ksR 4 ksV ra X Y) (hRB : RowN h ksR 4 ksV rb X2 Y2) (rRA : RoomA ra) (rRB : RoomA rb) (hs : SameH h h1) : CallF.fn (KT S) 7 [.agg [.int .i64 e1, sa, ra, .int .i64 p1], .agg [.int .i64 e2, sb, rb, .int .i64 p2]] ⟨h1, F⟩ = some [.val (difA (difV e1 e2 A B X X2 Y Y2)) ⟨h1, F⟩] :=
  kt_fn ((rfl : _ = spDf [.agg [.int .i64 e1, sa, ra, .int .i64 p1], .agg [.int .i64 e2, sb, rb, .int .i64 p2]] ⟨h1, F⟩).trans (by simp only [spDf, bytO_same hSA hs, bytO_same hSB hs, rowsOf_same hRA hs, rowsOf_same hRB hs])) (differB h1 F e1 e2 p1 p2 sa sb ra rb A B X X2 Y Y2 (hSA.same hs) (hSB.same hs) rSA rSB lSA lSB (hRA.same hs) (hRB.same hs) rRA rRB)
end

end Go.Proofs.YtfhgiadogeephaaGreatDoor

