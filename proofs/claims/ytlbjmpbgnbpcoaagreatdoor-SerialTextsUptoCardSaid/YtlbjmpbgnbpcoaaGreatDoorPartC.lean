/- A part of the proof of the law SerialTexts. CONDITIONS: those that each theorem names. -/
import Derived.Lib.ItoaLen
import Derived.Test.YtlbjmpbgnbpcoaaGreatDoorEngineA
import Derived.Test.YtlbjmpbgnbpcoaaGreatDoorEngineB
import Derived.Test.YtlbjmpbgnbpcoaaGreatDoorEngineC
import Derived.Test.YtlbjmpbgnbpcoaaGreatDoorEngineD
import Derived.Test.YtlbjmpbgnbpcoaaGreatDoorEngineE
import Derived.Test.YtlbjmpbgnbpcoaaGreatDoorPartA
import Derived.Test.YtlbjmpbgnbpcoaaGreatDoorSTTypes
import Derived.Test.YtlbjmpbgnbpcoaaGreatDoorPartB
import Derived.Test.YtlbjmpbgnbpcoaaGreatDoorSTLay
namespace Go.Proofs.YtlbjmpbgnbpcoaaGreatDoor
open Go Go.Ai
set_option maxRecDepth 100000

noncomputable def wordsC : List AV := [.str (wordL 0), .str (wordL 1), .str (wordL 2), .str (wordL 3), .str (wordL 4), .str (wordL 5), .str (wordL 6)]
noncomputable def GL : Glob := [(0, wordsC), (1, tabA .u64 Lib.pow10Tab)]
noncomputable def codeV (k n : Int) (t : List UInt8) : Int := open Classical in if vOk k n t then 0 else 20
noncomputable def txtOf (h : Heap) (a : AV) : Option (List (List UInt8)) := match lstOf h ksT a with
  | some L => some (L.map fun l => match l with
    | [.str s] => s
    | _ => [])
  | none => none
theorem txtOf_eq {h : Heap} {a : AV} {ss : List (List UInt8)} (hl : LstP h ksT a (tL ss)) : txtOf h a = some ss := by
  unfold txtOf
  rw [lstOf_eq hl]
  simp only [tL, List.map_map, Option.some.injEq]
  exact List.map_id' _
noncomputable def spDg : List AV → St → Option AV
  | [.int _ z], _ => some (.str (Lib.decDigits z.toNat))
  | _, _ => none
noncomputable def spIt : List AV → St → Option AV
  | [.int _ z], _ => some (.str (Lib.itoa z))
  | _, _ => none
noncomputable def spFm : List AV → St → Option AV
  | [.int _ z, _], _ => some (.str (Lib.itoa z))
  | _, _ => none
noncomputable def spWd : List AV → St → Option AV
  | [.int _ z], _ => some (.str (wordL z))
  | _, _ => none
noncomputable def spVd : List AV → St → Option AV
  | [.agg [.int _ k, .int _ n, .str t]], _ => some (.bool (dec (vOk k n t)))
  | _, _ => none
noncomputable def spPr : List AV → St → Option AV
  | [.agg [.int _ k, .int _ n, .str t]], _ => some (.tup [.str (printV k n t), .int .i64 (codeV k n t)])
  | _, _ => none
noncomputable def spEq : List AV → St → Option AV
  | [a, b], s => match lstOf s.h ksV a, lstOf s.h ksV b with
    | some L, some M => some (.bool (dec (L = M)))
    | _, _ => none
  | _, _ => none
noncomputable def spSm : List AV → St → Option AV
  | [.agg [.int _ q, .int _ k, .int _ c, .int _ p, a], .agg [.int _ q2, .int _ k2, .int _ c2, .int _ p2, b]], s => match lstOf s.h ksV a, lstOf s.h ksV b with
    | some L, some M => some (.bool (dec (q = q2 ∧ k = k2 ∧ c = c2 ∧ p = p2 ∧ L = M)))
    | _, _ => none
  | _, _ => none
noncomputable def spAl : List AV → St → Option AV
  | [a, b], s => match rowsOf s.h ksR 4 ksV a, rowsOf s.h ksR 4 ksV b with
    | some (X, Y), some (X2, Y2) => some (.bool (dec (resAll X X2 Y Y2)))
    | _, _ => none
  | _, _ => none
noncomputable def spEf : List AV → St → Option AV
  | [a, b, .fn _ _ _], s => match rowsOf s.h ksR 4 ksV a, rowsOf s.h ksR 4 ksV b with
    | some (X, Y), some (X2, Y2) => some (.bool (dec (resAll X X2 Y Y2)))
    | _, _ => none
  | _, _ => none
noncomputable def spRp : List AV → St → Option AV
  | [.agg [.int _ q, .int _ k, .int _ c, .int _ p, a]], s => match lstOf s.h ksV a with
    | some L => some (.str (printR q k c p L))
    | none => none
  | _, _ => none
noncomputable def spTb : List AV → St → Option AV
  | [a], s => match rowsOf s.h ksR 4 ksV a with
    | some (X, Y) => some (.str (tabT X Y))
    | none => none
  | _, _ => none
noncomputable def spJn : List AV → St → Option AV
  | [a, .str sep], s => match txtOf s.h a with
    | some ss => some (.str (Lib.join ss sep))
    | none => none
  | _, _ => none
noncomputable def spLv : List AV → St → Option AV
  | [], _ => some (.bool true)
  | _, _ => none
noncomputable def spT : FuncId → List AV → St → Option AV := fun f args s => match Nat.beq f 75 with
  | true => spDg args s
  | false => match Nat.beq f 45 with
  | true => spIt args s
  | false => match Nat.beq f 42 with
  | true => spIt args s
  | false => match Nat.beq f 72 with
  | true => spFm args s
  | false => match Nat.beq f 6 with
  | true => spWd args s
  | false => match Nat.beq f 7 with
  | true => spWd args s
  | false => match Nat.beq f 73 with
  | true => spVd args s
  | false => match Nat.beq f 76 with
  | true => spVd args s
  | false => match Nat.beq f 43 with
  | true => spPr args s
  | false => match Nat.beq f 46 with
  | true => spPr args s
  | false => match Nat.beq f 40 with
  | true => spEq args s
  | false => match Nat.beq f 71 with
  | true => spEq args s
  | false => match Nat.beq f 39 with
  | true => spSm args s
  | false => match Nat.beq f 41 with
  | true => spSm args s
  | false => match Nat.beq f 11 with
  | true => spAl args s
  | false => match Nat.beq f 10 with
  | true => spAl args s
  | false => match Nat.beq f 38 with
  | true => spEf args s
  | false => match Nat.beq f 12 with
  | true => spRp args s
  | false => match Nat.beq f 13 with
  | true => spRp args s
  | false => match Nat.beq f 8 with
  | true => spTb args s
  | false => match Nat.beq f 9 with
  | true => spTb args s
  | false => match Nat.beq f 44 with
  | true => spJn args s
  | false => match Nat.beq f 5 with
  | true => spLv args s
  | false => none
/-- what is said of the calls that write (A: the first frame in which the builder's bytes may lie) -/
def ST (A : Nat) : FuncId → List AV → St → Out → Prop
  | 70, [.ptr b 0], s, o => ∀ p buf, hget s.h b = some (bRowT 98 p buf) → (p = .nilp ∨ p = .ptr b 0) → ∃ h', o = .val (.tup []) ⟨h', s.fc⟩ ∧ hget h' b = some (bRowT 98 (.ptr b 0) buf) ∧ ∀ i, i ≠ b → hget h' i = hget s.h i
  | 35, [.ptr b 0, .str x], s, o => ∀ l B, Bld Tryz.prog s.h 98 5 b A B l → ∃ h', o = .val (.tup [.int .i64 (x.length : Int), .nili]) ⟨h', s.fc + 1⟩ ∧ Bld Tryz.prog h' 98 5 b A (s.fc + 1) (l ++ x) ∧ But b A (s.fc + 1) s.h h'
  | 36, [.ptr b 0, .int .u8 c], s, o => ∀ l B, Bld Tryz.prog s.h 98 5 b A B l → ∃ h', o = .val .nili ⟨h', s.fc + 1⟩ ∧ Bld Tryz.prog h' 98 5 b A (s.fc + 1) (l ++ [UInt8.ofNat c.toNat]) ∧ But b A (s.fc + 1) s.h h'
  | 37, [.ptr b 0], s, o => ∀ l B, Bld Tryz.prog s.h 98 5 b A B l → ∃ h', o = .val (.str l) ⟨h', s.fc + 1⟩ ∧ Low A s.h h'
  | _, _, _, _ => True
noncomputable def KT (S : FuncId → List AV → St → Out → Prop) : CallF := KC Tryz.prog GL spT S
def S0 : FuncId → List AV → St → Out → Prop := fun _ _ _ _ => True
theorem kt_ok {S : FuncId → List AV → St → Out → Prop} : KOK Tryz.prog GL (KT S) := kc_ok
theorem kt_fn {S : FuncId → List AV → St → Out → Prop} {f : FuncId} {args : List AV} {s : St} {v : AV} (hs : spT f args s = some v) (h : Snd Tryz.prog GL f args s [.val v s]) : CallF.fn (KT S) f args s = some [.val v s] := kc_hit hs h
section
variable {S : FuncId → List AV → St → Out → Prop}
/-! ### numbers -/
theorem itoa_nat (n : Nat) : Lib.itoa (n : Int) = Lib.decDigits n := by unfold Lib.itoa; rw [if_neg (by omega)]; rfl
theorem strOp_add {a b : List UInt8} (h : a.length + b.length < 4611686018427387904) : strOp .add a b = some (.str (a ++ b)) := by
  have : Nat.blt (a.length + b.length) 4611686018427387904 = true := by rw [Nat.blt_eq]; exact h
  simp only [strOp, this]
theorem pUn_neg {n : Int} (h : in64 (-n)) : pUn Tryz.prog .neg (some (.int .i64 n)) = some (.int .i64 (-n)) := by
  have e : IntKind.i64.wrap (-n) = -n := by
    have : IntKind.i64.wrap (-n) = if (-n) % 18446744073709551616 ≥ 9223372036854775808 then (-n) % 18446744073709551616 - 18446744073709551616 else (-n) % 18446744073709551616 := by simp [IntKind.wrap, IntKind.bits, IntKind.signed]
    rw [this]
    unfold in64 at h
    split <;> omega
  simp [pUn, pUn2, toS, Op.unary, Op.intArith, runP, ofS, pure, e]
set_option maxHeartbeats 1000000 in
theorem digits1 (h : Heap) (F : Nat) (N : Nat) (hN : N < 18446744073709551616) : Snd Tryz.prog GL 75 [.int .u64 (N : Int)] ⟨h, F⟩ [.val (.str (Lib.decDigits N)) ⟨h, F⟩] := by
  refine snd_val (by simp [Kin]) fun hw => ?_
  have fct : ∀ n : Nat, n < 18446744073709551616 → intOp Tryz.prog .rem 33 .u64 .u64 (n : Int) 10 = some (.int .u64 ((n % 10 : Nat) : Int)) ∧ intOp Tryz.prog .quo 33 .u64 .u64 (n : Int) 10 = some (.int .u64 ((n / 10 : Nat) : Int)) := fun n hn => And.intro (u64_rem (P := Tryz.prog) (t := 33) (a := n) (b := 10) (by decide)) (u64_quo (P := Tryz.prog) (t := 33) (a := n) (b := 10) (by decide) hn)
  have cv1 := fun (h : Heap) (n : Nat) => rCv_in (P := Tryz.prog) (h := h) (src := 33) (dst := 3) (k' := .u64) (n := ((n % 10 : Nat) : Int)) Tryz.underlying3 Tryz.underlying33 (wrapI_nat (by omega))
  have cv2 := fun (h : Heap) (n : Nat) => rCv_in (P := Tryz.prog) (h := h) (src := 3) (dst := 21) (k' := .i64) (n := (48 : Int) + ((n % 10 : Nat) : Int)) Tryz.underlying21 Tryz.underlying3 (wrapI32_in (by omega) (by omega))
  have cv3 := fun (h : Heap) (n : Nat) => (rCv_chr (P := Tryz.prog) (h := h) (src := 21) (dst := 9) (k := .i32) (n := (48 : Int) + ((n % 10 : Nat) : Int)) Tryz.underlying9 Tryz.underlying21).trans (by rw [chr_dig (by omega)])
  have ad := fun (n : Nat) => intOp_add (P := Tryz.prog) (t := 3) (a := 48) (b := ((n % 10 : Nat) : Int)) (by unfold inR; omega)
  obtain ⟨r0, _⟩ := fct N hN
  refine sndQ_body (K := (KT S0)) kt_ok mixed noNum (m := 100) Tryz.func75 ?_
  generalize hQ : retQ _ _ _ _ _ _ = Q0
  refine body_go (c := Tryz.f75.body.getD .skip) (n := 23) rfl rfl (by simp only [↓reduceIte, T.setList, T.set_e] <;> rfl) ?_
  simp only [Tryz.f75, Option.getD_some]
  repeat' (first
  | with_reducible refine r_seq ?_
  | with_reducible refine r_next ?_
  | with_reducible refine r_block ?_
  | with_reducible refine r_seq_exit ?_
  | with_reducible refine r_seq_ret ?_
  | with_reducible refine r_blk_n ?_
  | with_reducible refine r_blk_ret ?_
  | with_reducible refine r_blk_hit ?_
  | with_reducible refine r_blk_miss rfl ?_
  | with_reducible refine r_skip ?_
  | with_reducible refine r_exit ?_
  | with_reducible refine r_ret ?_
  | with_reducible refine r_rq_exit ?_
  | with_reducible refine r_rq_ret ?_
  | ((with_reducible apply r_regA); (focus (simp only [List.append_eq, List.cons_append, List.nil_append] <;> rfl)); (focus (first | exact Nat.le_of_ble_eq_true rfl | (simp only [List.length_cons, List.length_nil]; omega))))
  | ((with_reducible refine r_reg (List.toList_toArray) ?_ ?_); focus (first | exact Nat.le_of_ble_eq_true rfl | (simp only [List.length_cons, List.length_nil]; omega)))
  | ((with_reducible apply r_drawL); (focus kernel_rfl); (focus kernel_rfl); (focus (first | exact Nat.le_of_ble_eq_true rfl | (simp only [List.length_cons, List.length_nil]; omega))))
  | ((with_reducible apply r_end); focus (simp only [Nat.reduceAdd, Nat.zero_add] <;> rfl))
  | ((with_reducible (first | apply r_move | apply r_assign)); (focus (simp only [T.get_n, Nat.reduceEqDiff, Nat.reduceDiv, Nat.reduceMod, Nat.reduceSub, ↓reduceIte] <;> rfl)); (focus (exact Nat.le_of_ble_eq_true rfl)))
  | ((with_reducible apply r_condT); (focus (simp only [Tget_set, T.get_n, T.get_e, Nat.reduceEqDiff, Nat.reduceDiv, Nat.reduceMod, Nat.reduceSub, ↓reduceIte, if_true, if_false] <;> rfl)))
  | ((with_reducible (first | apply r_any | apply r_cond)); focus (simp only [↓reduceIte, clsOf, Fr.ev, ofV, ofA, ofS, put_mk, pureOp, readOp, pBin, binA, Nat.reduceLT, Nat.reduceEqDiff, Nat.reduceSub, binA, stepOp, stV_mk, T.get_n, T.set_n, T.set_e, Nat.reduceDiv, Nat.reduceMod, stepAny, wantedA_none, r0, cv1, cv2, cv3, ad] <;> rfl))
  | (with_reducible rw [ifQ_t])
  | (with_reducible rw [ifQ_f])
  | (with_reducible refine ifQ_intro ?_ ?_ <;> intro hb))
  have hd20 := Lib.nDigits_le20 N hN
  refine r_loop (I := fun nn fr s1 => ∃ lc tt n s, fr = ⟨F, lc, 23, tt, [], .no⟩ ∧ s1 = ⟨h, F + 1⟩ ∧ nn = Lib.nDigits n ∧ n ≤ N ∧ lc + nn * 1000 ≤ 100000000000000000000000000 ∧ tt.get 0 = some (.int .u64 (n : Int)) ∧ tt.get 3 = some (.str s) ∧ digI N n s) (n := Lib.nDigits N) ?_ ?_ ?_
  · omega
  · exact ⟨_, _, N, _, rfl, rfl, rfl, Nat.le_refl _, by omega, (by first | (simp only [Tget_set, T.get_n, Nat.reduceEqDiff, ↓reduceIte] <;> rfl) | rfl), (by first | (simp only [Tget_set, ↓reduceIte] <;> rfl) | rfl), digI.init N⟩
  rintro nn fr s1 ⟨lc, tt, n, s, rfl, rfl, rfl, hn, hlc, u0, u3, hI⟩
  by_cases hn10 : 10 ≤ n
  · obtain ⟨_, q1⟩ := fct n (by omega)
    obtain ⟨q2, _⟩ := fct (n / 10) (by omega)
    have hge : decide ((10 : Int) ≤ (n : Int)) = true := decide_eq_true (by omega)
    have hln := hI.len
    rw [Lib.decDigits_length] at hln
    have hnd := Lib.nDigits_big (u := n) (by omega)
    have sc := strOp_add (a := [UInt8.ofNat (48 + n / 10 % 10)]) (b := s) (by simp only [List.length_cons, List.length_nil]; omega)
    repeat' (first
    | with_reducible refine r_seq ?_
    | with_reducible refine r_next ?_
    | with_reducible refine r_block ?_
    | with_reducible refine r_seq_exit ?_
    | with_reducible refine r_seq_ret ?_
    | with_reducible refine r_blk_n ?_
    | with_reducible refine r_blk_ret ?_
    | with_reducible refine r_blk_hit ?_
    | with_reducible refine r_blk_miss rfl ?_
    | with_reducible refine r_skip ?_
    | with_reducible refine r_exit ?_
    | with_reducible refine r_ret ?_
    | with_reducible refine r_rq_exit ?_
    | with_reducible refine r_rq_ret ?_
    | ((with_reducible apply r_regA); (focus (simp only [List.append_eq, List.cons_append, List.nil_append] <;> rfl)); (focus (first | exact Nat.le_of_ble_eq_true rfl | (simp only [List.length_cons, List.length_nil]; omega))))
    | ((with_reducible refine r_reg (List.toList_toArray) ?_ ?_); focus (first | exact Nat.le_of_ble_eq_true rfl | (simp only [List.length_cons, List.length_nil]; omega)))
    | ((with_reducible apply r_drawL); (focus kernel_rfl); (focus kernel_rfl); (focus (first | exact Nat.le_of_ble_eq_true rfl | (simp only [List.length_cons, List.length_nil]; omega))))
    | ((with_reducible apply r_end); focus (simp only [Nat.add_assoc, Nat.reduceAdd, Nat.zero_add] <;> rfl))
    | ((with_reducible (first | apply r_move | apply r_assign)); (focus (simp only [Tget_set, Nat.reduceEqDiff, ↓reduceIte, u0, u3] <;> rfl)); (focus (exact Nat.le_of_ble_eq_true rfl)))
    | ((with_reducible apply r_condT); (focus (simp only [Tget_set, ↓reduceIte] <;> rfl)))
    | ((with_reducible (first | apply r_any | apply r_cond)); focus (simp only [↓reduceIte, clsOf, Fr.ev, ofV, ofA, ofS, put_mk, pureOp, readOp, pBin, binA, intOp_geq, Nat.reduceLT, Nat.reduceEqDiff, binA, stepOp, stV_mk, stepAny, wantedA_none, Tget_set, hge, q1, q2, cv1, cv2, cv3, ad, sc] <;> rfl))
    | (with_reducible rw [ifQ_t])
    | (with_reducible rw [ifQ_f])
    | (with_reducible refine ifQ_intro ?_ ?_ <;> intro hb))
    exact r_rq_n (k := Lib.nDigits (n / 10)) (by omega) ⟨_, _, n / 10, _, rfl, rfl, rfl, by omega, by omega, (by first | (simp only [Tget_set, Nat.reduceEqDiff, ↓reduceIte] <;> rfl) | rfl), (by first | (simp only [Tget_set, ↓reduceIte] <;> rfl) | rfl), hI.step hn10⟩
  · have hge : decide ((10 : Int) ≤ (n : Int)) = false := decide_eq_false (by omega)
    repeat' (first
    | with_reducible refine r_seq ?_
    | with_reducible refine r_next ?_
    | with_reducible refine r_block ?_
    | with_reducible refine r_seq_exit ?_
    | with_reducible refine r_seq_ret ?_
    | with_reducible refine r_blk_n ?_
    | with_reducible refine r_blk_ret ?_
    | with_reducible refine r_blk_hit ?_
    | with_reducible refine r_blk_miss rfl ?_
    | with_reducible refine r_skip ?_
    | with_reducible refine r_exit ?_
    | with_reducible refine r_ret ?_
    | with_reducible refine r_rq_exit ?_
    | with_reducible refine r_rq_ret ?_
    | ((with_reducible apply r_regA); (focus (simp only [List.append_eq, List.cons_append, List.nil_append] <;> rfl)); (focus (first | exact Nat.le_of_ble_eq_true rfl | (simp only [List.length_cons, List.length_nil]; omega))))
    | ((with_reducible refine r_reg (List.toList_toArray) ?_ ?_); focus (first | exact Nat.le_of_ble_eq_true rfl | (simp only [List.length_cons, List.length_nil]; omega)))
    | ((with_reducible apply r_drawL); (focus kernel_rfl); (focus kernel_rfl); (focus (first | exact Nat.le_of_ble_eq_true rfl | (simp only [List.length_cons, List.length_nil]; omega))))
    | ((with_reducible apply r_end); focus (simp only [Nat.add_assoc, Nat.reduceAdd, Nat.zero_add] <;> rfl))
    | ((with_reducible (first | apply r_move | apply r_assign)); (focus (simp only [Tget_set, Nat.reduceEqDiff, ↓reduceIte, u0, u3] <;> rfl)); (focus (exact Nat.le_of_ble_eq_true rfl)))
    | ((with_reducible apply r_condT); (focus (simp only [Tget_set, ↓reduceIte] <;> rfl)))
    | ((with_reducible (first | apply r_any | apply r_cond)); focus (simp only [↓reduceIte, clsOf, Fr.ev, ofV, ofA, ofS, put_mk, pureOp, pBin, binA, intOp_geq, Nat.reduceLT, binA, stepOp, stV_mk, stepAny, wantedA_none, Tget_set, hge] <;> rfl))
    | (with_reducible rw [ifQ_t])
    | (with_reducible rw [ifQ_f])
    | (with_reducible refine ifQ_intro ?_ ?_ <;> intro hb))
    subst hQ
    refine ret_back (by simp only [Tryz.results75, resultOf, resultsA, resultA, List.toList_toArray, Fr.ev, Tget_set, ↓reduceIte] <;> rfl) ?_
    exact ⟨_, by rw [hI.done (by omega)], Same.base _ _ _⟩
theorem k_digits {h : Heap} {F N : Nat} (hN : N < 18446744073709551616) : CallF.fn (KT S) 75 [.int .u64 (N : Int)] ⟨h, F⟩ = some [.val (.str (Lib.decDigits N)) ⟨h, F⟩] := kt_fn rfl (digits1 h F N hN)
set_option maxHeartbeats 1000000 in
theorem vdigits (h : Heap) (F : Nat) (n : Int) (hn : in64 n) : Snd Tryz.prog GL 45 [.int .i64 n] ⟨h, F⟩ [.val (.str (Lib.itoa n)) ⟨h, F⟩] := by
  refine snd_val (by simp [Kin]) fun hw => ?_
  unfold in64 at hn
  by_cases h0 : 0 ≤ n
  · obtain ⟨N, rfl⟩ := Int.eq_ofNat_of_zero_le h0
    have hN : N < 18446744073709551616 := by omega
    have cv := fun (h : Heap) => rCv_in (P := Tryz.prog) (h := h) (src := 2) (dst := 33) (k' := .i64) (n := (N : Int)) Tryz.underlying33 Tryz.underlying2 (wrapU_nat hN)
    refine sndQ_body (K := (KT S0)) kt_ok mixed noNum (m := 0) Tryz.func45 ?_
    generalize hQ : retQ _ _ _ _ _ _ = Q0
    refine body_go (c := Tryz.f45.body.getD .skip) (n := 15) rfl rfl (by simp only [↓reduceIte, T.setList, T.set_e] <;> rfl) ?_
    simp only [Tryz.f45, Option.getD_some]
    repeat' (first
    | with_reducible refine r_seq ?_
    | with_reducible refine r_next ?_
    | with_reducible refine r_block ?_
    | with_reducible refine r_seq_exit ?_
    | with_reducible refine r_seq_ret ?_
    | with_reducible refine r_blk_n ?_
    | with_reducible refine r_blk_ret ?_
    | with_reducible refine r_blk_hit ?_
    | with_reducible refine r_blk_miss rfl ?_
    | with_reducible refine r_skip ?_
    | with_reducible refine r_exit ?_
    | with_reducible refine r_ret ?_
    | with_reducible refine r_rq_exit ?_
    | with_reducible refine r_rq_ret ?_
    | ((with_reducible apply r_regA); (focus (simp only [List.append_eq, List.cons_append, List.nil_append] <;> rfl)); (focus (first | exact Nat.le_of_ble_eq_true rfl | (simp only [List.length_cons, List.length_nil]; omega))))
    | ((with_reducible refine r_reg (List.toList_toArray) ?_ ?_); focus (first | exact Nat.le_of_ble_eq_true rfl | (simp only [List.length_cons, List.length_nil]; omega)))
    | ((with_reducible apply r_drawL); (focus kernel_rfl); (focus kernel_rfl); (focus (first | exact Nat.le_of_ble_eq_true rfl | (simp only [List.length_cons, List.length_nil]; omega))))
    | ((with_reducible apply r_end); focus (simp only [Nat.reduceAdd, Nat.zero_add] <;> rfl))
    | ((with_reducible (first | apply r_move | apply r_assign)); (focus (simp only [T.get_n, Nat.reduceEqDiff, Nat.reduceDiv, Nat.reduceMod, ↓reduceIte] <;> rfl)); (focus (exact Nat.le_of_ble_eq_true rfl)))
    | ((with_reducible apply r_condT); (focus (simp only [T.get_n, Nat.reduceEqDiff, Nat.reduceDiv, Nat.reduceMod, Nat.reduceSub, ↓reduceIte] <;> rfl)))
    | ((with_reducible (first | apply r_any | apply r_cond)); focus (simp only [↓reduceIte, clsOf, clsCall, Fr.ev, evs, ofV, ofA, ofS, put_mk, pureOp, readOp, pBin, binA, intOp_geq, Nat.reduceLT, Nat.reduceEqDiff, Nat.reduceSub, callTo_s, heavyCall, target, List.nil_append, List.append_nil, binA, stepOp, stHeavy, stV_mk, stO_mk, T.get_n, T.set_n, T.set_e, Nat.reduceDiv, Nat.reduceMod, stepAny, wantedA_none, ge_t h0, cv, k_digits hN] <;> rfl))
    | (with_reducible rw [ifQ_t])
    | (with_reducible rw [ifQ_f])
    | (with_reducible refine ifQ_intro ?_ ?_ <;> intro hb))
    subst hQ
    refine ret_back (by simp only [Tryz.results45, resultOf, resultsA, resultA, List.toList_toArray, Fr.ev, Tget_set, ↓reduceIte] <;> rfl) ?_
    exact ⟨_, by rw [itoa_nat], Same.base _ _ _⟩
  · obtain ⟨M, hM⟩ : ∃ M : Nat, -(n + 1) = (M : Int) := ⟨(-(n + 1)).toNat, by omega⟩
    have hM1 : M + 1 < 18446744073709551616 := by omega
    have hneg := pUn_neg (n := n + 1) (by unfold in64; omega)
    rw [hM] at hneg
    have cv := fun (h : Heap) => rCv_in (P := Tryz.prog) (h := h) (src := 2) (dst := 33) (k' := .i64) (n := (M : Int)) Tryz.underlying33 Tryz.underlying2 (wrapU_nat (by omega))
    have hadd : intOp Tryz.prog .add 33 .u64 .u64 (M : Int) 1 = some (.int .u64 ((M + 1 : Nat) : Int)) := u64_add (by omega) (by omega)
    have hlen : (Lib.decDigits (M + 1)).length ≤ 20 := by rw [Lib.decDigits_length]; exact Lib.nDigits_le20 _ hM1
    have sc := strOp_add (a := [45]) (b := Lib.decDigits (M + 1)) (by simp only [List.length_cons, List.length_nil]; omega)
    refine sndQ_body (K := (KT S0)) kt_ok mixed noNum (m := 0) Tryz.func45 ?_
    generalize hQ : retQ _ _ _ _ _ _ = Q0
    refine body_go (c := Tryz.f45.body.getD .skip) (n := 15) rfl rfl (by simp only [↓reduceIte, T.setList, T.set_e] <;> rfl) ?_
    simp only [Tryz.f45, Option.getD_some]
    repeat' (first
    | with_reducible refine r_seq ?_
    | with_reducible refine r_next ?_
    | with_reducible refine r_block ?_
    | with_reducible refine r_seq_exit ?_
    | with_reducible refine r_seq_ret ?_
    | with_reducible refine r_blk_n ?_
    | with_reducible refine r_blk_ret ?_
    | with_reducible refine r_blk_hit ?_
    | with_reducible refine r_blk_miss rfl ?_
    | with_reducible refine r_skip ?_
    | with_reducible refine r_exit ?_
    | with_reducible refine r_ret ?_
    | with_reducible refine r_rq_exit ?_
    | with_reducible refine r_rq_ret ?_
    | ((with_reducible apply r_regA); (focus (simp only [List.append_eq, List.cons_append, List.nil_append] <;> rfl)); (focus (first | exact Nat.le_of_ble_eq_true rfl | (simp only [List.length_cons, List.length_nil]; omega))))
    | ((with_reducible refine r_reg (List.toList_toArray) ?_ ?_); focus (first | exact Nat.le_of_ble_eq_true rfl | (simp only [List.length_cons, List.length_nil]; omega)))
    | ((with_reducible apply r_drawL); (focus kernel_rfl); (focus kernel_rfl); (focus (first | exact Nat.le_of_ble_eq_true rfl | (simp only [List.length_cons, List.length_nil]; omega))))
    | ((with_reducible apply r_end); focus (simp only [Nat.reduceAdd, Nat.zero_add] <;> rfl))
    | ((with_reducible (first | apply r_move | apply r_assign)); (focus (simp only [T.get_n, Nat.reduceEqDiff, Nat.reduceDiv, Nat.reduceMod, Nat.reduceSub, ↓reduceIte] <;> rfl)); (focus (exact Nat.le_of_ble_eq_true rfl)))
    | ((with_reducible apply r_condT); (focus (simp only [T.get_n, Nat.reduceEqDiff, Nat.reduceDiv, Nat.reduceMod, Nat.reduceSub, ↓reduceIte] <;> rfl)))
    | ((with_reducible (first | apply r_any | apply r_cond)); focus (simp only [↓reduceIte, clsOf, clsCall, Fr.ev, evs, ofV, ofA, ofS, put_mk, pureOp, readOp, pBin, binA, intOp_geq, Nat.reduceLT, Nat.reduceEqDiff, Nat.reduceSub, callTo_s, heavyCall, target, List.nil_append, List.append_nil, binA, stepOp, stHeavy, stV_mk, stO_mk, T.get_n, T.set_n, T.set_e, Nat.reduceDiv, Nat.reduceMod, stepAny, wantedA_none, ge_f h0, intOp_add (t := 2) (P := Tryz.prog) (show inR (n + 1) by unfold inR; omega), hneg, cv, hadd, k_digits hM1, sc] <;> rfl))
    | (with_reducible rw [ifQ_t])
    | (with_reducible rw [ifQ_f])
    | (with_reducible refine ifQ_intro ?_ ?_ <;> intro hb))
    subst hQ
    refine ret_back (by simp only [Tryz.results45, resultOf, resultsA, resultA, List.toList_toArray, Fr.ev, Tget_set, ↓reduceIte] <;> rfl) ?_
    have e : Lib.itoa n = [45] ++ Lib.decDigits (M + 1) := by unfold Lib.itoa; rw [if_pos (by omega), show n.natAbs = M + 1 by omega]; rfl
    exact ⟨_, by rw [e], Same.base _ _ _⟩
theorem k_vdigits {h : Heap} {F : Nat} {n : Int} (hn : in64 n) : CallF.fn (KT S) 45 [.int .i64 n] ⟨h, F⟩ = some [.val (.str (Lib.itoa n)) ⟨h, F⟩] := kt_fn rfl (vdigits h F n hn)
theorem fmtInt (h : Heap) (F : Nat) (n : Int) (hn : in64 n) : Snd Tryz.prog GL 72 [.int .i64 n, .int .i64 10] ⟨h, F⟩ [.val (.str (Lib.itoa n)) ⟨h, F⟩] := by
  refine snd_grow noNum Tryz.func72 rfl (us := [.int .i64 n, .int .i64 10]) (u := .string ⟨(Lib.itoa n).toArray⟩) ?_ (fun _ => rfl) fun base w rg => ?_
  · rintro ρ vs ⟨_, _, r1, ⟨_, _, r2, r3, rfl⟩, rfl⟩
    simp only [RV] at r1 r2
    simp only [RVs] at r3
    subst r1 r2 r3; rfl
  · exact (Any.strconv_FormatInt_10 layFmt n hn.1 hn.2 w (tab_is (g := 1) rg rfl (by kernel_rfl))).mono fun e w' h => h
theorem k_fmt {h : Heap} {F : Nat} {n : Int} (hn : in64 n) : CallF.fn (KT S) 72 [.int .i64 n, .int .i64 10] ⟨h, F⟩ = some [.val (.str (Lib.itoa n)) ⟨h, F⟩] := kt_fn rfl (fmtInt h F n hn)
theorem pdigits (h : Heap) (F : Nat) (n : Int) (hn : in64 n) : Snd Tryz.prog GL 42 [.int .i64 n] ⟨h, F⟩ [.val (.str (Lib.itoa n)) ⟨h, F⟩] := by
  refine snd_val (by simp [Kin]) fun hw => ?_
  refine sndQ_body (K := (KT S0)) kt_ok mixed noNum (m := 0) Tryz.func42 ?_
  generalize hQ : retQ _ _ _ _ _ _ = Q0
  refine body_go (c := Tryz.f42.body.getD .skip) (n := 5) rfl rfl (by simp only [↓reduceIte, T.setList, T.set_e] <;> rfl) ?_
  simp only [Tryz.f42, Option.getD_some]
  repeat' (first
  | with_reducible refine r_seq ?_
  | with_reducible refine r_next ?_
  | with_reducible refine r_block ?_
  | with_reducible refine r_seq_exit ?_
  | with_reducible refine r_seq_ret ?_
  | with_reducible refine r_blk_n ?_
  | with_reducible refine r_blk_ret ?_
  | with_reducible refine r_blk_hit ?_
  | with_reducible refine r_blk_miss rfl ?_
  | with_reducible refine r_skip ?_
  | with_reducible refine r_exit ?_
  | with_reducible refine r_ret ?_
  | with_reducible refine r_rq_exit ?_
  | with_reducible refine r_rq_ret ?_
  | ((with_reducible apply r_regA); (focus (simp only [List.append_eq, List.cons_append, List.nil_append] <;> rfl)); (focus (first | exact Nat.le_of_ble_eq_true rfl | (simp only [List.length_cons, List.length_nil]; omega))))
  | ((with_reducible refine r_reg (List.toList_toArray) ?_ ?_); focus (first | exact Nat.le_of_ble_eq_true rfl | (simp only [List.length_cons, List.length_nil]; omega)))
  | ((with_reducible apply r_drawL); (focus kernel_rfl); (focus kernel_rfl); (focus (first | exact Nat.le_of_ble_eq_true rfl | (simp only [List.length_cons, List.length_nil]; omega))))
  | ((with_reducible apply r_end); focus (simp only [Nat.reduceAdd, Nat.zero_add] <;> rfl))
  | ((with_reducible (first | apply r_move | apply r_assign)); (focus (simp only [T.get_n, Nat.reduceEqDiff, Nat.reduceDiv, Nat.reduceMod, Nat.reduceSub, ↓reduceIte] <;> rfl)); (focus (exact Nat.le_of_ble_eq_true rfl)))
  | ((with_reducible apply r_condT); (focus (simp only [Tget_set, T.get_n, T.get_e, Nat.reduceEqDiff, Nat.reduceDiv, Nat.reduceMod, Nat.reduceSub, ↓reduceIte, if_true, if_false] <;> rfl)))
  | ((with_reducible (first | apply r_any | apply r_cond)); focus (simp only [↓reduceIte, clsOf, clsCall, Fr.ev, evs, ofV, ofA, ofS, put_mk, pureOp, Nat.reduceLT, Nat.reduceEqDiff, Nat.reduceSub, callTo_s, heavyCall, target, List.nil_append, List.append_nil, stepOp, stHeavy, stV_mk, stO_mk, T.get_n, T.set_n, T.set_e, Nat.reduceDiv, Nat.reduceMod, stepAny, wantedA_none, k_fmt hn] <;> rfl))
  | (with_reducible rw [ifQ_t])
  | (with_reducible rw [ifQ_f])
  | (with_reducible refine ifQ_intro ?_ ?_ <;> intro hb))
  subst hQ
  refine ret_back (by simp only [Tryz.results42, resultOf, resultsA, resultA, List.toList_toArray, Fr.ev, Tget_set, ↓reduceIte] <;> rfl) ?_
  exact ⟨_, rfl, Same.base _ _ _⟩
theorem k_pdigits {h : Heap} {F : Nat} {n : Int} (hn : in64 n) : CallF.fn (KT S) 42 [.int .i64 n] ⟨h, F⟩ = some [.val (.str (Lib.itoa n)) ⟨h, F⟩] := kt_fn rfl (pdigits h F n hn)
/-! ### words -/
theorem word_out {k : Int} (h : ¬ (0 ≤ k ∧ k < 7)) : wordL k = [] := by
  unfold wordL
  split <;> first | rfl | (exfalso; apply h; decide)
theorem word_at : ∀ K : Nat, K < 7 → pIA Tryz.prog 94 (some (.gptr 0 0)) (some (.int .i64 (K : Int))) = some (.gptr 0 K) ∧ ∀ h, loadA Tryz.prog GL h 9 (.gptr 0 K) = some (.str (wordL (K : Int)))
  | 0, _ => ⟨by kernel_rfl, fun _ => by kernel_rfl⟩
  | 1, _ => ⟨by kernel_rfl, fun _ => by kernel_rfl⟩
  | 2, _ => ⟨by kernel_rfl, fun _ => by kernel_rfl⟩
  | 3, _ => ⟨by kernel_rfl, fun _ => by kernel_rfl⟩
  | 4, _ => ⟨by kernel_rfl, fun _ => by kernel_rfl⟩
  | 5, _ => ⟨by kernel_rfl, fun _ => by kernel_rfl⟩
  | 6, _ => ⟨by kernel_rfl, fun _ => by kernel_rfl⟩
  | n + 7, h => absurd h (by omega)
theorem pword (h : Heap) (F : Nat) (k : Int) : Snd Tryz.prog GL 6 [.int .i64 k] ⟨h, F⟩ [.val (.str (wordL k)) ⟨h, F⟩] := by
  refine snd_val (by simp [Kin]) fun hw => ?_
  by_cases h0 : k < 0
  · refine sndQ_body (K := (KT S0)) kt_ok mixed noNum (m := 0) Tryz.func6 ?_
    generalize hQ : retQ _ _ _ _ _ _ = Q0
    refine body_go (c := Tryz.f6.body.getD .skip) (n := 12) rfl rfl (by simp only [↓reduceIte, T.setList, T.set_e] <;> rfl) ?_
    simp only [Tryz.f6, Option.getD_some]
    repeat' (first
    | with_reducible refine r_seq ?_
    | with_reducible refine r_next ?_
    | with_reducible refine r_block ?_
    | with_reducible refine r_seq_exit ?_
    | with_reducible refine r_seq_ret ?_
    | with_reducible refine r_blk_n ?_
    | with_reducible refine r_blk_ret ?_
    | with_reducible refine r_blk_hit ?_
    | with_reducible refine r_blk_miss rfl ?_
    | with_reducible refine r_skip ?_
    | with_reducible refine r_exit ?_
    | with_reducible refine r_ret ?_
    | with_reducible refine r_rq_exit ?_
    | with_reducible refine r_rq_ret ?_
    | ((with_reducible apply r_regA); (focus (simp only [List.append_eq, List.cons_append, List.nil_append] <;> rfl)); (focus (first | exact Nat.le_of_ble_eq_true rfl | (simp only [List.length_cons, List.length_nil]; omega))))
    | ((with_reducible refine r_reg (List.toList_toArray) ?_ ?_); focus (first | exact Nat.le_of_ble_eq_true rfl | (simp only [List.length_cons, List.length_nil]; omega)))
    | ((with_reducible apply r_drawL); (focus kernel_rfl); (focus kernel_rfl); (focus (first | exact Nat.le_of_ble_eq_true rfl | (simp only [List.length_cons, List.length_nil]; omega))))
    | ((with_reducible apply r_end); focus (simp only [Nat.reduceAdd, Nat.zero_add] <;> rfl))
    | ((with_reducible (first | apply r_move | apply r_assign)); (focus (simp only [T.get_n, Nat.reduceEqDiff, Nat.reduceDiv, Nat.reduceMod, Nat.reduceSub, ↓reduceIte] <;> rfl)); (focus (exact Nat.le_of_ble_eq_true rfl)))
    | ((with_reducible apply r_condT); (focus (simp only [T.get_n, Nat.reduceEqDiff, Nat.reduceDiv, Nat.reduceMod, Nat.reduceSub, ↓reduceIte] <;> rfl)))
    | ((with_reducible (first | apply r_any | apply r_cond)); focus (simp only [↓reduceIte, wantedA_eq, gBool_f, Bool.not_true, clsOf, Fr.ev, ofV, ofA, ofS, put_mk, pureOp, pBin, binA, intOp_lss, pPick, List.getElem?_cons_zero, List.getElem?_cons_succ, Nat.reduceLT, Nat.reduceEqDiff, Nat.reduceSub, binA, stepOp, stV_mk, T.get_n, T.set_n, T.set_e, Nat.reduceDiv, Nat.reduceMod, stepAny, wantedA_none, ls_t h0] <;> rfl))
    | (with_reducible rw [ifQ_t])
    | (with_reducible rw [ifQ_f])
    | (with_reducible refine ifQ_intro ?_ ?_ <;> intro hb))
    subst hQ
    refine ret_back (by simp only [Tryz.results6, resultOf, resultsA, resultA, List.toList_toArray, Fr.ev, T.get_n, Nat.reduceDiv, Nat.reduceMod, Nat.reduceSub, Nat.reduceEqDiff, ↓reduceIte] <;> rfl) ?_
    exact ⟨_, by rw [word_out (by omega)], Same.base _ _ _⟩
  by_cases h7 : (7 : Int) ≤ k
  · refine sndQ_body (K := (KT S0)) kt_ok mixed noNum (m := 0) Tryz.func6 ?_
    generalize hQ : retQ _ _ _ _ _ _ = Q0
    refine body_go (c := Tryz.f6.body.getD .skip) (n := 12) rfl rfl (by simp only [↓reduceIte, T.setList, T.set_e] <;> rfl) ?_
    simp only [Tryz.f6, Option.getD_some]
    repeat' (first
    | with_reducible refine r_seq ?_
    | with_reducible refine r_next ?_
    | with_reducible refine r_block ?_
    | with_reducible refine r_seq_exit ?_
    | with_reducible refine r_seq_ret ?_
    | with_reducible refine r_blk_n ?_
    | with_reducible refine r_blk_ret ?_
    | with_reducible refine r_blk_hit ?_
    | with_reducible refine r_blk_miss rfl ?_
    | with_reducible refine r_skip ?_
    | with_reducible refine r_exit ?_
    | with_reducible refine r_ret ?_
    | with_reducible refine r_rq_exit ?_
    | with_reducible refine r_rq_ret ?_
    | ((with_reducible apply r_regA); (focus (simp only [List.append_eq, List.cons_append, List.nil_append] <;> rfl)); (focus (first | exact Nat.le_of_ble_eq_true rfl | (simp only [List.length_cons, List.length_nil]; omega))))
    | ((with_reducible refine r_reg (List.toList_toArray) ?_ ?_); focus (first | exact Nat.le_of_ble_eq_true rfl | (simp only [List.length_cons, List.length_nil]; omega)))
    | ((with_reducible apply r_drawL); (focus kernel_rfl); (focus kernel_rfl); (focus (first | exact Nat.le_of_ble_eq_true rfl | (simp only [List.length_cons, List.length_nil]; omega))))
    | ((with_reducible apply r_end); focus (simp only [Nat.reduceAdd, Nat.zero_add] <;> rfl))
    | ((with_reducible (first | apply r_move | apply r_assign)); (focus (simp only [T.get_n, Nat.reduceEqDiff, Nat.reduceDiv, Nat.reduceMod, Nat.reduceSub, ↓reduceIte] <;> rfl)); (focus (exact Nat.le_of_ble_eq_true rfl)))
    | ((with_reducible apply r_condT); (focus (simp only [T.get_n, Nat.reduceEqDiff, Nat.reduceDiv, Nat.reduceMod, Nat.reduceSub, ↓reduceIte] <;> rfl)))
    | ((with_reducible (first | apply r_any | apply r_cond)); focus (simp only [↓reduceIte, wantedA_eq, gBool_f, Bool.not_false, clsOf, Fr.ev, ofV, ofA, ofS, put_mk, pureOp, pBin, binA, intOp_lss, intOp_geq, pPick, List.getElem?_cons_zero, List.getElem?_cons_succ, Nat.reduceLT, Nat.reduceEqDiff, Nat.reduceSub, binA, stepOp, stV_mk, T.get_n, T.set_n, T.set_e, Nat.reduceDiv, Nat.reduceMod, stepAny, wantedA_none, ls_f h0, ge_t h7] <;> rfl))
    | (with_reducible rw [ifQ_t])
    | (with_reducible rw [ifQ_f])
    | (with_reducible refine ifQ_intro ?_ ?_ <;> intro hb))
    subst hQ
    refine ret_back (by simp only [Tryz.results6, resultOf, resultsA, resultA, List.toList_toArray, Fr.ev, T.get_n, Nat.reduceDiv, Nat.reduceMod, Nat.reduceSub, Nat.reduceEqDiff, ↓reduceIte] <;> rfl) ?_
    exact ⟨_, by rw [word_out (by omega)], Same.base _ _ _⟩
  obtain ⟨K, rfl⟩ := Int.eq_ofNat_of_zero_le (Int.not_lt.1 h0)
  obtain ⟨w1, w2⟩ := word_at K (by omega)
  refine sndQ_body (K := (KT S0)) kt_ok mixed noNum (m := 0) Tryz.func6 ?_
  generalize hQ : retQ _ _ _ _ _ _ = Q0
  refine body_go (c := Tryz.f6.body.getD .skip) (n := 12) rfl rfl (by simp only [↓reduceIte, T.setList, T.set_e] <;> rfl) ?_
  simp only [Tryz.f6, Option.getD_some]
  repeat' (first
  | with_reducible refine r_seq ?_
  | with_reducible refine r_next ?_
  | with_reducible refine r_block ?_
  | with_reducible refine r_seq_exit ?_
  | with_reducible refine r_seq_ret ?_
  | with_reducible refine r_blk_n ?_
  | with_reducible refine r_blk_ret ?_
  | with_reducible refine r_blk_hit ?_
  | with_reducible refine r_blk_miss rfl ?_
  | with_reducible refine r_skip ?_
  | with_reducible refine r_exit ?_
  | with_reducible refine r_ret ?_
  | with_reducible refine r_rq_exit ?_
  | with_reducible refine r_rq_ret ?_
  | ((with_reducible apply r_regA); (focus (simp only [List.append_eq, List.cons_append, List.nil_append] <;> rfl)); (focus (first | exact Nat.le_of_ble_eq_true rfl | (simp only [List.length_cons, List.length_nil]; omega))))
  | ((with_reducible refine r_reg (List.toList_toArray) ?_ ?_); focus (first | exact Nat.le_of_ble_eq_true rfl | (simp only [List.length_cons, List.length_nil]; omega)))
  | ((with_reducible apply r_drawL); (focus kernel_rfl); (focus kernel_rfl); (focus (first | exact Nat.le_of_ble_eq_true rfl | (simp only [List.length_cons, List.length_nil]; omega))))
  | ((with_reducible apply r_end); focus (simp only [Nat.reduceAdd, Nat.zero_add] <;> rfl))
  | ((with_reducible (first | apply r_move | apply r_assign)); (focus (simp only [T.get_n, Nat.reduceEqDiff, Nat.reduceDiv, Nat.reduceMod, Nat.reduceSub, ↓reduceIte] <;> rfl)); (focus (exact Nat.le_of_ble_eq_true rfl)))
  | ((with_reducible apply r_condT); (focus (simp only [T.get_n, Nat.reduceEqDiff, Nat.reduceDiv, Nat.reduceMod, Nat.reduceSub, ↓reduceIte] <;> rfl)))
  | ((with_reducible (first | apply r_any | apply r_cond)); focus (simp only [↓reduceIte, wantedA_eq, gBool_f, Bool.not_false, clsOf, Fr.ev, ofV, ofA, ofS, put_mk, pureOp, readOp, rLd, pBin, binA, intOp_lss, intOp_geq, pPick, List.getElem?_cons_zero, List.getElem?_cons_succ, Nat.reduceLT, Nat.reduceEqDiff, Nat.reduceSub, binA, stepOp, stV_mk, T.get_n, T.set_n, T.set_e, Nat.reduceDiv, Nat.reduceMod, stepAny, wantedA_none, ls_f h0, ge_f h7, w1, w2] <;> rfl))
  | (with_reducible rw [ifQ_t])
  | (with_reducible rw [ifQ_f])
  | (with_reducible refine ifQ_intro ?_ ?_ <;> intro hb))
  subst hQ
  refine ret_back (by simp only [Tryz.results6, resultOf, resultsA, resultA, List.toList_toArray, Fr.ev, Tget_set, ↓reduceIte] <;> rfl) ?_
  exact ⟨_, rfl, Same.base _ _ _⟩
theorem k_pword {h : Heap} {F : Nat} {k : Int} : CallF.fn (KT S) 6 [.int .i64 k] ⟨h, F⟩ = some [.val (.str (wordL k)) ⟨h, F⟩] := kt_fn rfl (pword h F k)
theorem rword (h : Heap) (F : Nat) (k : Int) : Snd Tryz.prog GL 7 [.int .i64 k] ⟨h, F⟩ [.val (.str (wordL k)) ⟨h, F⟩] := by
  refine snd_val (by simp [Kin]) fun hw => ?_
  by_cases hk : 0 ≤ k ∧ k < 7
  · rcases (show k = 0 ∨ k = 1 ∨ k = 2 ∨ k = 3 ∨ k = 4 ∨ k = 5 ∨ k = 6 by omega) with rfl | rfl | rfl | rfl | rfl | rfl | rfl
    all_goals
      refine sndQ_body (K := (KT S0)) kt_ok mixed noNum (m := 0) Tryz.func7 ?_
      generalize hQ : retQ _ _ _ _ _ _ = Q0
      refine body_go (c := Tryz.f7.body.getD .skip) (n := 18) rfl rfl (by simp only [↓reduceIte, T.setList, T.set_e] <;> rfl) ?_
      simp only [Tryz.f7, Option.getD_some]
      repeat' (first
      | with_reducible refine r_seq ?_
      | with_reducible refine r_next ?_
      | with_reducible refine r_block ?_
      | with_reducible refine r_seq_exit ?_
      | with_reducible refine r_seq_ret ?_
      | with_reducible refine r_blk_n ?_
      | with_reducible refine r_blk_ret ?_
      | with_reducible refine r_blk_hit ?_
      | with_reducible refine r_blk_miss rfl ?_
      | with_reducible refine r_skip ?_
      | with_reducible refine r_exit ?_
      | with_reducible refine r_ret ?_
      | with_reducible refine r_rq_exit ?_
      | with_reducible refine r_rq_ret ?_
      | ((with_reducible apply r_regA); (focus (simp only [List.append_eq, List.cons_append, List.nil_append] <;> rfl)); (focus (first | exact Nat.le_of_ble_eq_true rfl | (simp only [List.length_cons, List.length_nil]; omega))))
      | ((with_reducible refine r_reg (List.toList_toArray) ?_ ?_); focus (first | exact Nat.le_of_ble_eq_true rfl | (simp only [List.length_cons, List.length_nil]; omega)))
      | ((with_reducible apply r_drawL); (focus kernel_rfl); (focus kernel_rfl); (focus (first | exact Nat.le_of_ble_eq_true rfl | (simp only [List.length_cons, List.length_nil]; omega))))
      | ((with_reducible apply r_end); focus (simp only [Nat.reduceAdd, Nat.zero_add] <;> rfl))
      | ((with_reducible (first | apply r_move | apply r_assign)); (focus (simp only [T.get_n, Nat.reduceEqDiff, Nat.reduceDiv, Nat.reduceMod, Nat.reduceSub, ↓reduceIte] <;> rfl)); (focus (exact Nat.le_of_ble_eq_true rfl)))
      | ((with_reducible apply r_condT); (focus (simp only [Tget_set, ↓reduceIte] <;> rfl)))
      | ((with_reducible (first | apply r_any | apply r_cond)); focus (simp only [↓reduceIte, clsOf, Fr.ev, ofV, ofA, ofS, put_mk, pureOp, pBin, binA, intOp_eql, Nat.reduceLT, Nat.reduceEqDiff, Nat.reduceSub, binA, beq_self_eq_true, Int.reduceBEq, stepOp, stV_mk, T.get_n, T.set_n, T.set_e, Nat.reduceDiv, Nat.reduceMod, stepAny, wantedA_none] <;> rfl))
      | (with_reducible rw [ifQ_t])
      | (with_reducible rw [ifQ_f])
      | (with_reducible refine ifQ_intro ?_ ?_ <;> intro hb))
      subst hQ
      refine ret_back (by simp only [Tryz.results7, resultOf, resultsA, resultA, List.toList_toArray, Fr.ev, T.get_n, Nat.reduceDiv, Nat.reduceMod, Nat.reduceSub, Nat.reduceEqDiff, ↓reduceIte] <;> rfl) ?_
      exact ⟨_, rfl, Same.base _ _ _⟩
  · have e0 : (k == 0) = false := beq_eq_false_iff_ne.2 (by omega)
    have e1 : (k == 1) = false := beq_eq_false_iff_ne.2 (by omega)
    have e2 : (k == 2) = false := beq_eq_false_iff_ne.2 (by omega)
    have e3 : (k == 3) = false := beq_eq_false_iff_ne.2 (by omega)
    have e4 : (k == 4) = false := beq_eq_false_iff_ne.2 (by omega)
    have e5 : (k == 5) = false := beq_eq_false_iff_ne.2 (by omega)
    have e6 : (k == 6) = false := beq_eq_false_iff_ne.2 (by omega)
    refine sndQ_body (K := (KT S0)) kt_ok mixed noNum (m := 0) Tryz.func7 ?_
    generalize hQ : retQ _ _ _ _ _ _ = Q0
    refine body_go (c := Tryz.f7.body.getD .skip) (n := 18) rfl rfl (by simp only [↓reduceIte, T.setList, T.set_e] <;> rfl) ?_
    simp only [Tryz.f7, Option.getD_some]
    repeat' (first
    | with_reducible refine r_seq ?_
    | with_reducible refine r_next ?_
    | with_reducible refine r_block ?_
    | with_reducible refine r_seq_exit ?_
    | with_reducible refine r_seq_ret ?_
    | with_reducible refine r_blk_n ?_
    | with_reducible refine r_blk_ret ?_
    | with_reducible refine r_blk_hit ?_
    | with_reducible refine r_blk_miss rfl ?_
    | with_reducible refine r_skip ?_
    | with_reducible refine r_exit ?_
    | with_reducible refine r_ret ?_
    | with_reducible refine r_rq_exit ?_
    | with_reducible refine r_rq_ret ?_
    | ((with_reducible apply r_regA); (focus (simp only [List.append_eq, List.cons_append, List.nil_append] <;> rfl)); (focus (first | exact Nat.le_of_ble_eq_true rfl | (simp only [List.length_cons, List.length_nil]; omega))))
    | ((with_reducible refine r_reg (List.toList_toArray) ?_ ?_); focus (first | exact Nat.le_of_ble_eq_true rfl | (simp only [List.length_cons, List.length_nil]; omega)))
    | ((with_reducible apply r_drawL); (focus kernel_rfl); (focus kernel_rfl); (focus (first | exact Nat.le_of_ble_eq_true rfl | (simp only [List.length_cons, List.length_nil]; omega))))
    | ((with_reducible apply r_end); focus (simp only [Nat.reduceAdd, Nat.zero_add] <;> rfl))
    | ((with_reducible (first | apply r_move | apply r_assign)); (focus (simp only [T.get_n, Nat.reduceEqDiff, Nat.reduceDiv, Nat.reduceMod, Nat.reduceSub, ↓reduceIte] <;> rfl)); (focus (exact Nat.le_of_ble_eq_true rfl)))
    | ((with_reducible apply r_condT); (focus (simp only [Tget_set, ↓reduceIte] <;> rfl)))
    | ((with_reducible (first | apply r_any | apply r_cond)); focus (simp only [↓reduceIte, clsOf, Fr.ev, ofV, ofA, ofS, put_mk, pureOp, pBin, binA, intOp_eql, Nat.reduceLT, Nat.reduceEqDiff, Nat.reduceSub, binA, stepOp, stV_mk, T.get_n, T.set_n, T.set_e, Nat.reduceDiv, Nat.reduceMod, stepAny, wantedA_none, e0, e1, e2, e3, e4, e5, e6] <;> rfl))
    | (with_reducible rw [ifQ_t])
    | (with_reducible rw [ifQ_f])
    | (with_reducible refine ifQ_intro ?_ ?_ <;> intro hb))
    subst hQ
    refine ret_back (by simp only [Tryz.results7, resultOf, resultsA, resultA, List.toList_toArray, Fr.ev, T.get_n, Nat.reduceDiv, Nat.reduceMod, Nat.reduceSub, Nat.reduceEqDiff, ↓reduceIte] <;> rfl) ?_
    exact ⟨_, by rw [word_out hk], Same.base _ _ _⟩
theorem k_rword {h : Heap} {F : Nat} {k : Int} : CallF.fn (KT S) 7 [.int .i64 k] ⟨h, F⟩ = some [.val (.str (wordL k)) ⟨h, F⟩] := kt_fn rfl (rword h F k)
end

end Go.Proofs.YtlbjmpbgnbpcoaaGreatDoor

namespace Go.Proofs.YtlbjmpbgnbpcoaaGreatDoor
open Go Go.Ai
set_option maxRecDepth 100000
theorem lc_ne1 {lc k j : Nat} (h : 10 ≤ lc) (hk : k < 10) : (k = lc + j) = False := by apply propext; constructor; omega; exact False.elim
end Go.Proofs.YtlbjmpbgnbpcoaaGreatDoor

namespace Go.Proofs.YtlbjmpbgnbpcoaaGreatDoor
open Go Go.Ai
set_option maxRecDepth 100000

theorem plain_ok (h : Heap) (F : Nat) (n : Int) : Snd Tryz.prog [] 123 [.int .u8 n] ⟨h, F⟩ [.val (.bool (dec (32 ≤ n ∧ n ≤ 126))) ⟨h, F⟩] := by
  refine snd_val (by simp [Kin]) fun hw => ?_
  by_cases h1 : 32 ≤ n
  · have hd := decide_eq_true h1
    refine sndQ_body (K := K0) kok0 mixed noNum (m := 0) Tryz.func123 ?_
    generalize hQ : retQ _ _ _ _ _ _ = Q0
    refine body_go (c := Tryz.f123.body.getD .skip) (n := 9) rfl rfl (by simp only [↓reduceIte, T.setList, T.set_e] <;> rfl) ?_
    simp only [Tryz.f123, Option.getD_some]
    repeat' (first
    | with_reducible refine r_seq ?_
    | with_reducible refine r_next ?_
    | with_reducible refine r_block ?_
    | with_reducible refine r_seq_exit ?_
    | with_reducible refine r_seq_ret ?_
    | with_reducible refine r_blk_n ?_
    | with_reducible refine r_blk_ret ?_
    | with_reducible refine r_blk_hit ?_
    | with_reducible refine r_blk_miss rfl ?_
    | with_reducible refine r_skip ?_
    | with_reducible refine r_exit ?_
    | with_reducible refine r_ret ?_
    | with_reducible refine r_rq_exit ?_
    | with_reducible refine r_rq_ret ?_
    | ((with_reducible apply r_regA); (focus (simp only [List.append_eq, List.cons_append, List.nil_append] <;> rfl)); (focus (first | exact Nat.le_of_ble_eq_true rfl | (simp only [List.length_cons, List.length_nil]; omega))))
    | ((with_reducible refine r_reg (List.toList_toArray) ?_ ?_); focus (first | exact Nat.le_of_ble_eq_true rfl | (simp only [List.length_cons, List.length_nil]; omega)))
    | ((with_reducible apply r_end); focus (simp only [Nat.reduceAdd, Nat.zero_add] <;> rfl))
    | ((with_reducible (first | apply r_any | apply r_cond)); focus (simp only [↓reduceIte, wantedA_eq, gBool_t, clsOf, Fr.ev, ofV, ofA, ofS, put_mk, pureOp, pBin, binA, intOp_leq, intOp_geq, pPick, List.getElem?_cons_zero, List.getElem?_cons_succ, Nat.reduceLT, Nat.reduceEqDiff, Nat.reduceSub, binA, stepOp, stV_mk, T.get_n, T.set_n, T.set_e, Nat.reduceDiv, Nat.reduceMod, stepAny, wantedA_none, hd] <;> rfl))
    | (with_reducible rw [ifQ_t])
    | (with_reducible rw [ifQ_f])
    | (with_reducible refine ifQ_intro ?_ ?_ <;> intro hb))
    subst hQ
    refine ret_back (by simp only [Tryz.results123, resultOf, resultsA, resultA, List.toList_toArray, Fr.ev, T.get_n, Nat.reduceDiv, Nat.reduceMod, Nat.reduceSub, Nat.reduceEqDiff, ↓reduceIte] <;> rfl) ⟨_, out_b (by simp [h1]), ?_⟩
    repeat (first | exact Same.base _ _ _ | exact Same.refl _ | refine Same.hset hw ?_ (ky_le _ _))
  · have hd := decide_eq_false h1
    refine sndQ_body (K := K0) kok0 mixed noNum (m := 0) Tryz.func123 ?_
    generalize hQ : retQ _ _ _ _ _ _ = Q0
    refine body_go (c := Tryz.f123.body.getD .skip) (n := 9) rfl rfl (by simp only [↓reduceIte, T.setList, T.set_e] <;> rfl) ?_
    simp only [Tryz.f123, Option.getD_some]
    repeat' (first
    | with_reducible refine r_seq ?_
    | with_reducible refine r_next ?_
    | with_reducible refine r_block ?_
    | with_reducible refine r_seq_exit ?_
    | with_reducible refine r_seq_ret ?_
    | with_reducible refine r_blk_n ?_
    | with_reducible refine r_blk_ret ?_
    | with_reducible refine r_blk_hit ?_
    | with_reducible refine r_blk_miss rfl ?_
    | with_reducible refine r_skip ?_
    | with_reducible refine r_exit ?_
    | with_reducible refine r_ret ?_
    | with_reducible refine r_rq_exit ?_
    | with_reducible refine r_rq_ret ?_
    | ((with_reducible apply r_regA); (focus (simp only [List.append_eq, List.cons_append, List.nil_append] <;> rfl)); (focus (first | exact Nat.le_of_ble_eq_true rfl | (simp only [List.length_cons, List.length_nil]; omega))))
    | ((with_reducible refine r_reg (List.toList_toArray) ?_ ?_); focus (first | exact Nat.le_of_ble_eq_true rfl | (simp only [List.length_cons, List.length_nil]; omega)))
    | ((with_reducible apply r_end); focus (simp only [Nat.reduceAdd, Nat.zero_add] <;> rfl))
    | ((with_reducible (first | apply r_any | apply r_cond)); focus (simp only [↓reduceIte, wantedA_eq, gBool_t, clsOf, Fr.ev, ofV, ofA, ofS, put_mk, pureOp, pBin, binA, intOp_geq, pPick, List.getElem?_cons_zero, List.getElem?_cons_succ, Nat.reduceLT, Nat.reduceEqDiff, Nat.reduceSub, binA, stepOp, stV_mk, T.get_n, T.set_n, T.set_e, Nat.reduceDiv, Nat.reduceMod, stepAny, wantedA_none, hd] <;> rfl))
    | (with_reducible rw [ifQ_t])
    | (with_reducible rw [ifQ_f])
    | (with_reducible refine ifQ_intro ?_ ?_ <;> intro hb))
    subst hQ
    refine ret_back (by simp only [Tryz.results123, resultOf, resultsA, resultA, List.toList_toArray, Fr.ev, T.get_n, Nat.reduceDiv, Nat.reduceMod, Nat.reduceSub, Nat.reduceEqDiff, ↓reduceIte] <;> rfl) ⟨_, out_f (fun hA => h1 hA.1), ?_⟩
    repeat (first | exact Same.base _ _ _ | exact Same.refl _ | refine Same.hset hw ?_ (ky_le _ _))

theorem may_ok (h : Heap) (F : Nat) (n : Int) : Snd Tryz.prog [] 102 [.int .u8 n] ⟨h, F⟩ [.val (.bool (dec (32 ≤ n ∧ n ≤ 126))) ⟨h, F⟩] := by
  refine snd_val (by simp [Kin]) fun hw => ?_
  by_cases h1 : 32 ≤ n
  · have hd := decide_eq_true h1
    refine sndQ_body (K := K0) kok0 mixed noNum (m := 0) Tryz.func102 ?_
    generalize hQ : retQ _ _ _ _ _ _ = Q0
    refine body_go (c := Tryz.f102.body.getD .skip) (n := 9) rfl rfl (by simp only [↓reduceIte, T.setList, T.set_e] <;> rfl) ?_
    simp only [Tryz.f102, Option.getD_some]
    repeat' (first
    | with_reducible refine r_seq ?_
    | with_reducible refine r_next ?_
    | with_reducible refine r_block ?_
    | with_reducible refine r_seq_exit ?_
    | with_reducible refine r_seq_ret ?_
    | with_reducible refine r_blk_n ?_
    | with_reducible refine r_blk_ret ?_
    | with_reducible refine r_blk_hit ?_
    | with_reducible refine r_blk_miss rfl ?_
    | with_reducible refine r_skip ?_
    | with_reducible refine r_exit ?_
    | with_reducible refine r_ret ?_
    | with_reducible refine r_rq_exit ?_
    | with_reducible refine r_rq_ret ?_
    | ((with_reducible apply r_regA); (focus (simp only [List.append_eq, List.cons_append, List.nil_append] <;> rfl)); (focus (first | exact Nat.le_of_ble_eq_true rfl | (simp only [List.length_cons, List.length_nil]; omega))))
    | ((with_reducible refine r_reg (List.toList_toArray) ?_ ?_); focus (first | exact Nat.le_of_ble_eq_true rfl | (simp only [List.length_cons, List.length_nil]; omega)))
    | ((with_reducible apply r_end); focus (simp only [Nat.reduceAdd, Nat.zero_add] <;> rfl))
    | ((with_reducible (first | apply r_any | apply r_cond)); focus (simp only [↓reduceIte, wantedA_eq, gBool_t, clsOf, Fr.ev, ofV, ofA, ofS, put_mk, pureOp, pBin, binA, intOp_leq, intOp_geq, pPick, List.getElem?_cons_zero, List.getElem?_cons_succ, Nat.reduceLT, Nat.reduceEqDiff, Nat.reduceSub, binA, stepOp, stV_mk, T.get_n, T.set_n, T.set_e, Nat.reduceDiv, Nat.reduceMod, stepAny, wantedA_none, hd] <;> rfl))
    | (with_reducible rw [ifQ_t])
    | (with_reducible rw [ifQ_f])
    | (with_reducible refine ifQ_intro ?_ ?_ <;> intro hb))
    subst hQ
    refine ret_back (by simp only [Tryz.results102, resultOf, resultsA, resultA, List.toList_toArray, Fr.ev, T.get_n, Nat.reduceDiv, Nat.reduceMod, Nat.reduceSub, Nat.reduceEqDiff, ↓reduceIte] <;> rfl) ⟨_, out_b (by simp [h1]), ?_⟩
    repeat (first | exact Same.base _ _ _ | exact Same.refl _ | refine Same.hset hw ?_ (ky_le _ _))
  · have hd := decide_eq_false h1
    refine sndQ_body (K := K0) kok0 mixed noNum (m := 0) Tryz.func102 ?_
    generalize hQ : retQ _ _ _ _ _ _ = Q0
    refine body_go (c := Tryz.f102.body.getD .skip) (n := 9) rfl rfl (by simp only [↓reduceIte, T.setList, T.set_e] <;> rfl) ?_
    simp only [Tryz.f102, Option.getD_some]
    repeat' (first
    | with_reducible refine r_seq ?_
    | with_reducible refine r_next ?_
    | with_reducible refine r_block ?_
    | with_reducible refine r_seq_exit ?_
    | with_reducible refine r_seq_ret ?_
    | with_reducible refine r_blk_n ?_
    | with_reducible refine r_blk_ret ?_
    | with_reducible refine r_blk_hit ?_
    | with_reducible refine r_blk_miss rfl ?_
    | with_reducible refine r_skip ?_
    | with_reducible refine r_exit ?_
    | with_reducible refine r_ret ?_
    | with_reducible refine r_rq_exit ?_
    | with_reducible refine r_rq_ret ?_
    | ((with_reducible apply r_regA); (focus (simp only [List.append_eq, List.cons_append, List.nil_append] <;> rfl)); (focus (first | exact Nat.le_of_ble_eq_true rfl | (simp only [List.length_cons, List.length_nil]; omega))))
    | ((with_reducible refine r_reg (List.toList_toArray) ?_ ?_); focus (first | exact Nat.le_of_ble_eq_true rfl | (simp only [List.length_cons, List.length_nil]; omega)))
    | ((with_reducible apply r_end); focus (simp only [Nat.reduceAdd, Nat.zero_add] <;> rfl))
    | ((with_reducible (first | apply r_any | apply r_cond)); focus (simp only [↓reduceIte, wantedA_eq, gBool_t, clsOf, Fr.ev, ofV, ofA, ofS, put_mk, pureOp, pBin, binA, intOp_geq, pPick, List.getElem?_cons_zero, List.getElem?_cons_succ, Nat.reduceLT, Nat.reduceEqDiff, Nat.reduceSub, binA, stepOp, stV_mk, T.get_n, T.set_n, T.set_e, Nat.reduceDiv, Nat.reduceMod, stepAny, wantedA_none, hd] <;> rfl))
    | (with_reducible rw [ifQ_t])
    | (with_reducible rw [ifQ_f])
    | (with_reducible refine ifQ_intro ?_ ?_ <;> intro hb))
    subst hQ
    refine ret_back (by simp only [Tryz.results102, resultOf, resultsA, resultA, List.toList_toArray, Fr.ev, T.get_n, Nat.reduceDiv, Nat.reduceMod, Nat.reduceSub, Nat.reduceEqDiff, ↓reduceIte] <;> rfl) ⟨_, out_f (fun hA => h1 hA.1), ?_⟩
    repeat (first | exact Same.base _ _ _ | exact Same.refl _ | refine Same.hset hw ?_ (ky_le _ _))

noncomputable def K1f : FuncId → List AV → St → Outs := fun f args s => match f, args with
  | 123, [.int .u8 n] => some [.val (.bool (dec (32 ≤ n ∧ n ≤ 126))) s]
  | 102, [.int .u8 n] => some [.val (.bool (dec (32 ≤ n ∧ n ≤ 126))) s]
  | _, _ => none
noncomputable def K1 : CallF := ⟨K1f, fun _ _ _ => none⟩
theorem k1_fn (f : FuncId) (args : List AV) (s : St) : CallF.fn K1 f args s = K1f f args s := rfl
theorem k1_ok : KOK Tryz.prog [] K1 := KOK.table fun f args s outs h => by
  obtain ⟨h0, F⟩ := s
  unfold K1f at h
  split at h
  · cases h; exact plain_ok _ _ _
  · cases h; exact may_ok _ _ _
  · cases h
theorem plain_dec (c : UInt8) : (32 ≤ (c.toNat : Int) ∧ (c.toNat : Int) ≤ 126) ↔ plainB c := by unfold plainB; omega

theorem printable_ok (h : Heap) (F : Nat) (s : List UInt8) (hs : s.length ≤ maxLen) : Snd Tryz.prog [] 100 [.str s] ⟨h, F⟩ [.val (.bool (dec (∀ c ∈ s, plainB c))) ⟨h, F⟩] := by
  have mxl : maxLen = 9223372036854775807 := by decide
  refine snd_val (by simp [Kin]) fun hw => ?_
  refine sndQ_body (K := K1) k1_ok mixed noNum (m := s.length + 1) Tryz.func100 ?_
  generalize hQ : retQ _ _ _ _ _ _ = Q0
  refine body_go (c := Tryz.f100.body.getD .skip) (n := 15) rfl rfl (by simp only [↓reduceIte, T.setList, T.set_e] <;> rfl) ?_
  simp only [Tryz.f100, Option.getD_some]
  repeat' (first
  | with_reducible refine r_seq ?_
  | with_reducible refine r_next ?_
  | with_reducible refine r_block ?_
  | with_reducible refine r_seq_exit ?_
  | with_reducible refine r_seq_ret ?_
  | with_reducible refine r_blk_n ?_
  | with_reducible refine r_blk_ret ?_
  | with_reducible refine r_blk_hit ?_
  | with_reducible refine r_blk_miss rfl ?_
  | with_reducible refine r_skip ?_
  | with_reducible refine r_exit ?_
  | with_reducible refine r_ret ?_
  | with_reducible refine r_rq_exit ?_
  | with_reducible refine r_rq_ret ?_
  | ((with_reducible apply r_regA); (focus (simp only [List.append_eq, List.cons_append, List.nil_append] <;> rfl)); (focus (first | exact Nat.le_of_ble_eq_true rfl | (simp only [List.length_cons, List.length_nil]; omega))))
  | ((with_reducible refine r_reg (List.toList_toArray) ?_ ?_); focus (first | exact Nat.le_of_ble_eq_true rfl | (simp only [List.length_cons, List.length_nil]; omega)))
  | ((with_reducible apply r_end); focus (simp only [Nat.reduceAdd, Nat.zero_add] <;> rfl))
  | ((with_reducible (first | apply r_any | apply r_cond)); focus (simp only [↓reduceIte, clsOf, clsCall, Fr.ev, ofV, ofA, ofS, put_mk, pureOp, readOp, List.getElem?_cons_zero, Nat.reduceLT, Nat.reduceEqDiff, Nat.reduceSub, stepOp, stV_mk, T.get_n, T.set_n, T.set_e, Nat.reduceDiv, Nat.reduceMod, Tryz.underlying9, stepAny, wantedA_none, rCall, rLen, rLen1_str, lenA] <;> rfl))
  | (with_reducible rw [ifQ_t])
  | (with_reducible rw [ifQ_f])
  | (with_reducible refine ifQ_intro ?_ ?_ <;> intro hb))
  · refine r_loop (I := fun nn fr s1 => ∃ lc tt h1 i, fr = ⟨F, lc, 15, tt, [], .no⟩ ∧ s1 = ⟨h1, F + 1⟩ ∧ i ≤ s.length ∧ nn = s.length - i ∧ 2 ≤ lc ∧ lc + nn * 1000 ≤ 100000000000000000000000000 ∧ SameH h h1 ∧ tt.get 0 = some (.str s) ∧ tt.get 5 = some (.int .i64 s.length) ∧ tt.get 6 = some (.int .i64 i) ∧ (∀ j (hj : j < i) (hjl : j < s.length), plainB s[j])) (n := s.length) ?_ ?_ ?_
    · omega
    · exact ⟨_, _, _, 0, rfl, rfl, Nat.zero_le _, (Nat.sub_zero _).symm, by first | omega | exact Nat.le_of_ble_eq_true rfl, by omega, (by repeat (first | exact SameH.refl _ | refine SameH.hset hw ?_ (ky_le _ _))), (by first | rfl | (simp only [Nat.reduceLT, Tget_set, T.get_n, T.get_e, Nat.reduceEqDiff, Nat.reduceDiv, Nat.reduceMod, Nat.reduceSub, ↓reduceIte, if_true, if_false, hget_same, hget_hset_ite, ky_inj, Nat.reduceAdd, Nat.zero_add] <;> rfl)), (by first | rfl | (simp only [Nat.reduceLT, Tget_set, T.get_n, T.get_e, Nat.reduceEqDiff, Nat.reduceDiv, Nat.reduceMod, Nat.reduceSub, ↓reduceIte, if_true, if_false, hget_same, hget_hset_ite, ky_inj, Nat.reduceAdd, Nat.zero_add] <;> rfl)), (by first | rfl | (simp only [Nat.reduceLT, Tget_set, T.get_n, T.get_e, Nat.reduceEqDiff, Nat.reduceDiv, Nat.reduceMod, Nat.reduceSub, ↓reduceIte, if_true, if_false, hget_same, hget_hset_ite, ky_inj, Nat.reduceAdd, Nat.zero_add] <;> rfl)), fun j hj => absurd hj (Nat.not_lt_zero _)⟩
    rintro nn fr s1 ⟨lc, tt, h1, i, rfl, rfl, hi, rfl, hl0, hlc, hS, ht0, ht5, ht6, hI⟩
    by_cases hil : i < s.length
    · have hc : s[i]? = some s[i] := by simp [hil]
      repeat' (first
      | with_reducible refine r_seq ?_
      | with_reducible refine r_next ?_
      | with_reducible refine r_block ?_
      | with_reducible refine r_seq_exit ?_
      | with_reducible refine r_seq_ret ?_
      | with_reducible refine r_blk_n ?_
      | with_reducible refine r_blk_ret ?_
      | with_reducible refine r_blk_hit ?_
      | with_reducible refine r_blk_miss rfl ?_
      | with_reducible refine r_skip ?_
      | with_reducible refine r_exit ?_
      | with_reducible refine r_ret ?_
      | with_reducible refine r_rq_exit ?_
      | with_reducible refine r_rq_ret ?_
      | ((with_reducible apply r_regA); (focus (simp only [List.append_eq, List.cons_append, List.nil_append] <;> rfl)); (focus (first | exact Nat.le_of_ble_eq_true rfl | (simp only [List.length_cons, List.length_nil]; omega))))
      | ((with_reducible refine r_reg (List.toList_toArray) ?_ ?_); focus (first | exact Nat.le_of_ble_eq_true rfl | (simp only [List.length_cons, List.length_nil]; omega)))
      | ((with_reducible apply r_end); focus (simp only [Nat.add_assoc, Nat.reduceAdd, Nat.zero_add] <;> rfl))
      | ((with_reducible (first | apply r_any | apply r_cond)); focus (simp only [↓reduceIte, clsOf, clsCall, Fr.ev, evs, ofV, ofA, ofS, put_mk, pureOp, pBin, binA, intOp_lss, Nat.reduceLT, Nat.reduceEqDiff, pUn_not, callTo_s, heavyCall, target, List.nil_append, List.append_nil, binA, stepOp, stHeavy, stV_mk, stO_mk, Tryz.underlying9, stepAny, wantedA_none, K1f, k1_fn, Tget_set, ht0, ht5, ht6, lt_t hil, natOf_c, hc, pIx, pIx1, pIx2, intOp_add (inR_succ hil hs)] <;> rfl))
      | (with_reducible rw [ifQ_t])
      | (with_reducible rw [ifQ_f])
      | (with_reducible refine ifQ_intro ?_ ?_ <;> intro hb))
      · subst hQ
        refine ret_back (by simp only [Tryz.results100, resultOf, resultsA, resultA, List.toList_toArray, Fr.ev, Tget_set, ↓reduceIte] <;> rfl) ⟨_, out_f fun hA => ?_, ?_⟩
        · rw [dec_t ((plain_dec _).2 (hA _ (List.getElem_mem hil)))] at hb; cases hb
        repeat (first | exact Same.base _ _ _ | exact hS | refine Same.hset hw ?_ (ky_le _ _))
      · have hp : plainB s[i] := (plain_dec _).1 (dec_iff.1 (by simpa using hb))
        refine r_rq_n (k := s.length - (i + 1)) (by omega) ⟨_, _, _, i + 1, rfl, rfl, by omega, rfl, by omega, by omega, hS, (by simp only [Tget_set, Nat.reduceEqDiff, ↓reduceIte, Tget_set, ht0] <;> rfl), (by simp only [Tget_set, Nat.reduceEqDiff, ↓reduceIte, Tget_set, ht5] <;> rfl), (by simp only [Tget_set, ↓reduceIte, Tget_set] <;> rfl), fun j hj hjl => by rcases Nat.lt_or_ge j i with hji | hji; exact hI j hji hjl; obtain rfl : j = i := (by omega); exact hp⟩
    · have hend : i = s.length := by omega
      repeat' (first
      | with_reducible refine r_seq ?_
      | with_reducible refine r_next ?_
      | with_reducible refine r_block ?_
      | with_reducible refine r_seq_exit ?_
      | with_reducible refine r_seq_ret ?_
      | with_reducible refine r_blk_n ?_
      | with_reducible refine r_blk_ret ?_
      | with_reducible refine r_blk_hit ?_
      | with_reducible refine r_blk_miss rfl ?_
      | with_reducible refine r_skip ?_
      | with_reducible refine r_exit ?_
      | with_reducible refine r_ret ?_
      | with_reducible refine r_rq_exit ?_
      | with_reducible refine r_rq_ret ?_
      | ((with_reducible apply r_regA); (focus (simp only [List.append_eq, List.cons_append, List.nil_append] <;> rfl)); (focus (first | exact Nat.le_of_ble_eq_true rfl | (simp only [List.length_cons, List.length_nil]; omega))))
      | ((with_reducible refine r_reg (List.toList_toArray) ?_ ?_); focus (first | exact Nat.le_of_ble_eq_true rfl | (simp only [List.length_cons, List.length_nil]; omega)))
      | ((with_reducible apply r_end); focus (simp only [Nat.add_assoc, Nat.reduceAdd, Nat.zero_add] <;> rfl))
      | ((with_reducible (first | apply r_any | apply r_cond)); focus (simp only [↓reduceIte, clsOf, Fr.ev, ofV, ofA, ofS, put_mk, pureOp, pBin, binA, intOp_lss, Nat.reduceLT, binA, stepOp, stV_mk, stepAny, wantedA_none, Tget_set, ht5, ht6, lt_f hil] <;> rfl))
      | (with_reducible rw [ifQ_t])
      | (with_reducible rw [ifQ_f])
      | (with_reducible refine ifQ_intro ?_ ?_ <;> intro hb))
      · subst hQ
        refine ret_back (by simp only [Tryz.results100, resultOf, resultsA, resultA, List.toList_toArray, Fr.ev, Tget_set, ↓reduceIte] <;> rfl) ⟨_, out_t fun c hc => ?_, ?_⟩
        · obtain ⟨j, hj, rfl⟩ := List.getElem_of_mem hc; exact hI j (by omega) hj
        repeat (first | exact Same.base _ _ _ | exact hS | refine Same.hset hw ?_ (ky_le _ _))


end Go.Proofs.YtlbjmpbgnbpcoaaGreatDoor

namespace Go.Proofs.YtlbjmpbgnbpcoaaGreatDoor
open Go Go.Ai
set_option maxRecDepth 100000
theorem eg79 : Tryz.prog.eqGuardType Tryz.prog.depth 79 = false := by kernel_rfl
theorem si79 : Tryz.prog.stoodInHeld 79 = false := by kernel_rfl
theorem eq_int {P : Program} {d t : Nat} {kk k : IntKind} {a b : Int} (hu : P.underlying t = some (.int kk)) : eqIn P (d + 1) t (.int k a) (.int k b) = some (a == b) := by
  unfold eqIn; simp [hu]
theorem eq_str {P : Program} {d t : Nat} {a b : List UInt8} (hu : P.underlying t = some .string) : eqIn P (d + 1) t (.str a) (.str b) = some (a == b) := by
  unfold eqIn; simp [hu]
theorem eq_struct {P : Program} {d t : Nat} {fs : Array Field} {xs ys : List AV} (hu : P.underlying t = some (.struct fs)) (hs : P.stoodInHeld t = false) : eqIn P (d + 1) t (.agg xs) (.agg ys) = eqFs P (eqIn P d) xs ys fs.toList := by
  unfold eqIn; simp [hu, hs]
theorem eqV (d : Nat) (k n k' n' : Int) (t t' : List UInt8) : eqIn Tryz.prog (d + 2) 79 (.agg [.int .i64 k, .int .i64 n, .str t]) (.agg [.int .i64 k', .int .i64 n', .str t']) = some (dec ([AV.int .i64 k, .int .i64 n, .str t] = [.int .i64 k', .int .i64 n', .str t'])) := by
  rw [eq_struct Tryz.underlying79 si79]
  simp only [eqFs, partA, ag3, ag2, ag9, List.getElem?_cons_zero, List.getElem?_cons_succ, eq_int Tryz.underlying3, eq_int Tryz.underlying2, eq_str Tryz.underlying9]
  simp only [String.reduceBEq]
  cases h1 : k == k' <;> cases h2 : n == n' <;> cases h3 : t == t' <;> simp_all [dec]
theorem eqV100 (k n k' n' : Int) (t t' : List UInt8) : eqIn Tryz.prog 100 79 (.agg [.int .i64 k, .int .i64 n, .str t]) (.agg [.int .i64 k', .int .i64 n', .str t']) = some (dec ([AV.int .i64 k, .int .i64 n, .str t] = [.int .i64 k', .int .i64 n', .str t'])) := eqV 98 _ _ _ _ _ _
end Go.Proofs.YtlbjmpbgnbpcoaaGreatDoor

namespace Go.Proofs.YtlbjmpbgnbpcoaaGreatDoor
open Go Go.Ai
set_option maxRecDepth 100000

noncomputable def lenOk (l : List UInt8) : Bool := Nat.ble l.length maxLen
theorem lenOk_t {l : List UInt8} (h : l.length ≤ maxLen) : lenOk l = true := Nat.ble_eq_true_of_le h
theorem lenOk_le {l : List UInt8} (h : lenOk l = true) : l.length ≤ maxLen := Nat.le_of_ble_eq_true h

noncomputable def K2f : FuncId → List AV → St → Outs := fun f args s => match f, args with
  | 100, [.str l] => match lenOk l with
    | true => some [.val (.bool (dec (∀ c ∈ l, plainB c))) s]
    | false => none
  | f, args => K1f f args s
noncomputable def K2 : CallF := ⟨K2f, fun _ _ _ => none⟩
theorem k2_fn (f : FuncId) (args : List AV) (s : St) : CallF.fn K2 f args s = K2f f args s := rfl
theorem k2_ok : KOK Tryz.prog [] K2 := KOK.table fun f args s outs h => by
  obtain ⟨h0, F⟩ := s
  unfold K2f at h
  split at h
  · split at h
    · rename_i hl; cases h; exact printable_ok _ _ _ (lenOk_le hl)
    · cases h
  · exact k1_ok.fn _ _ _ _ h

theorem valid_ok (h : Heap) (F : Nat) (k n : Int) (t : List UInt8) (ht : t.length ≤ maxLen) : Snd Tryz.prog [] 73 [.agg [.int .i64 k, .int .i64 n, .str t]] ⟨h, F⟩ [.val (.bool (dec (vOk k n t))) ⟨h, F⟩] := by
  refine snd_val (by simp [Kin]) fun hw => ?_
  have hlen := lenOk_t ht
  have hln : t.length ≤ 64 → decide ((t.length : Int) ≤ 64) = true := fun h => decide_eq_true (by omega)
  have hlf : ¬ t.length ≤ 64 → decide ((t.length : Int) ≤ 64) = false := fun h => decide_eq_false (by omega)
  by_cases k0 : k = 0
  · subst k0
    refine sndQ_body (K := K2) k2_ok mixed noNum (m := 0) Tryz.func73 ?_
    generalize hQ : retQ _ _ _ _ _ _ = Q0
    refine body_go (c := Tryz.f73.body.getD .skip) (n := 31) rfl rfl (by simp only [↓reduceIte, T.setList, T.set_e] <;> rfl) ?_
    simp only [Tryz.f73, Option.getD_some]
    repeat' (first
    | with_reducible refine r_seq ?_
    | with_reducible refine r_next ?_
    | with_reducible refine r_block ?_
    | with_reducible refine r_seq_exit ?_
    | with_reducible refine r_seq_ret ?_
    | with_reducible refine r_blk_n ?_
    | with_reducible refine r_blk_ret ?_
    | with_reducible refine r_blk_hit ?_
    | with_reducible refine r_blk_miss rfl ?_
    | with_reducible refine r_skip ?_
    | with_reducible refine r_exit ?_
    | with_reducible refine r_ret ?_
    | with_reducible refine r_rq_exit ?_
    | with_reducible refine r_rq_ret ?_
    | ((with_reducible apply r_regA); (focus (simp only [List.append_eq, List.cons_append, List.nil_append] <;> rfl)); (focus (first | exact Nat.le_of_ble_eq_true rfl | (simp only [List.length_cons, List.length_nil]; omega))))
    | ((with_reducible refine r_reg (List.toList_toArray) ?_ ?_); focus (first | exact Nat.le_of_ble_eq_true rfl | (simp only [List.length_cons, List.length_nil]; omega)))
    | ((with_reducible apply r_end); focus (simp only [Nat.reduceAdd, Nat.zero_add] <;> rfl))
    | ((with_reducible (first | apply r_any | apply r_cond)); focus (simp only [↓reduceIte, Bool.not_false, clsOf, newBlk, allocOp, Fr.ev, evParts, ofV, ofA, ofS, nVar, AV.cells, rowOf_mk, put_mk, upd_mk, keyOf_mk, pureOp, readOp, pFA, pFA1, pFA2, rLd, rdAB_row, oneCell_one, someAgg_s, hget_same, pBin, binA, intOp_eql, List.length_cons, List.length_nil, List.getElem?_cons_zero, List.drop_zero, List.take_succ_cons, List.take_zero, Nat.zero_add, Nat.add_zero, Nat.reduceAdd, Nat.reduceLT, Nat.reduceLeDiff, Nat.reduceEqDiff, Nat.reduceSub, Nat.add_eq, loadA_w, loadW_a, loadW_s, pBuild, pBuild2, fieldsOk, buildParts, binA, eqGuardOk, beq_self_eq_true, stepOp, stV_mk, stB_mk, T.get_n, T.set_n, T.set_e, Nat.reduceDiv, Nat.reduceMod, sz2, sz3, ag3, sz9, sz79, ag79, zr79, Tryz.underlying79, stepAny, wantedA_none, eqV100, eg79] <;> rfl))
    | (with_reducible rw [ifQ_t])
    | (with_reducible rw [ifQ_f])
    | (with_reducible refine ifQ_intro ?_ ?_ <;> intro hb))
    subst hQ
    refine ret_back (by simp only [Tryz.results73, resultOf, resultsA, resultA, List.toList_toArray, Fr.ev, T.get_n, Nat.reduceDiv, Nat.reduceMod, Nat.reduceSub, Nat.reduceEqDiff, ↓reduceIte] <;> rfl) ⟨_, out_b ?_, ?_⟩
    · simp [dec_iff, vOk]
    repeat (first | exact Same.base _ _ _ | exact Same.refl _ | refine Same.hset hw ?_ (ky_le _ _))
  by_cases k1 : k = 1
  · subst k1
    refine sndQ_body (K := K2) k2_ok mixed noNum (m := 0) Tryz.func73 ?_
    generalize hQ : retQ _ _ _ _ _ _ = Q0
    refine body_go (c := Tryz.f73.body.getD .skip) (n := 31) rfl rfl (by simp only [↓reduceIte, T.setList, T.set_e] <;> rfl) ?_
    simp only [Tryz.f73, Option.getD_some]
    repeat' (first
    | with_reducible refine r_seq ?_
    | with_reducible refine r_next ?_
    | with_reducible refine r_block ?_
    | with_reducible refine r_seq_exit ?_
    | with_reducible refine r_seq_ret ?_
    | with_reducible refine r_blk_n ?_
    | with_reducible refine r_blk_ret ?_
    | with_reducible refine r_blk_hit ?_
    | with_reducible refine r_blk_miss rfl ?_
    | with_reducible refine r_skip ?_
    | with_reducible refine r_exit ?_
    | with_reducible refine r_ret ?_
    | with_reducible refine r_rq_exit ?_
    | with_reducible refine r_rq_ret ?_
    | ((with_reducible apply r_regA); (focus (simp only [List.append_eq, List.cons_append, List.nil_append] <;> rfl)); (focus (first | exact Nat.le_of_ble_eq_true rfl | (simp only [List.length_cons, List.length_nil]; omega))))
    | ((with_reducible refine r_reg (List.toList_toArray) ?_ ?_); focus (first | exact Nat.le_of_ble_eq_true rfl | (simp only [List.length_cons, List.length_nil]; omega)))
    | ((with_reducible apply r_end); focus (simp only [Nat.reduceAdd, Nat.zero_add] <;> rfl))
    | ((with_reducible (first | apply r_any | apply r_cond)); focus (simp only [↓reduceIte, clsOf, newBlk, allocOp, Fr.ev, ofV, ofA, ofS, nVar, AV.cells, rowOf_mk, put_mk, upd_mk, keyOf_mk, pureOp, readOp, pFA, pFA1, pFA2, rLd, rdAB_row, oneCell_one, hget_same, pBin, binA, intOp_eql, List.length_cons, List.length_nil, List.getElem?_cons_zero, List.getElem?_cons_succ, List.drop_zero, List.drop_succ_cons, List.take_succ_cons, List.take_zero, Nat.zero_add, Nat.add_zero, Nat.reduceAdd, Nat.reduceLT, Nat.reduceLeDiff, Nat.reduceEqDiff, Nat.reduceSub, Nat.add_eq, loadA_w, loadW_s, binA, beq_self_eq_true, Int.reduceBEq, stepOp, stV_mk, stB_mk, T.get_n, T.set_n, T.set_e, Nat.reduceDiv, Nat.reduceMod, sz3, ag3, sz9, ag9, Tryz.underlying79, stepAny, wantedA_none, strOp] <;> rfl))
    | (with_reducible rw [ifQ_t])
    | (with_reducible rw [ifQ_f])
    | (with_reducible refine ifQ_intro ?_ ?_ <;> intro hb))
    subst hQ
    refine ret_back (by simp only [Tryz.results73, resultOf, resultsA, resultA, List.toList_toArray, Fr.ev, T.get_n, Nat.reduceDiv, Nat.reduceMod, Nat.reduceSub, Nat.reduceEqDiff, ↓reduceIte] <;> rfl) ⟨_, out_b ?_, ?_⟩
    · simp [vOk]
    repeat (first | exact Same.base _ _ _ | exact Same.refl _ | refine Same.hset hw ?_ (ky_le _ _))
  by_cases k2 : k = 2
  · subst k2
    by_cases n0 : n = 0
    · subst n0
      by_cases hl : t.length ≤ 64
      · have hl1 := hln hl
        refine sndQ_body (K := K2) k2_ok mixed noNum (m := 0) Tryz.func73 ?_
        generalize hQ : retQ _ _ _ _ _ _ = Q0
        refine body_go (c := Tryz.f73.body.getD .skip) (n := 31) rfl rfl (by simp only [↓reduceIte, T.setList, T.set_e] <;> rfl) ?_
        simp only [Tryz.f73, Option.getD_some]
        repeat' (first
        | with_reducible refine r_seq ?_
        | with_reducible refine r_next ?_
        | with_reducible refine r_block ?_
        | with_reducible refine r_seq_exit ?_
        | with_reducible refine r_seq_ret ?_
        | with_reducible refine r_blk_n ?_
        | with_reducible refine r_blk_ret ?_
        | with_reducible refine r_blk_hit ?_
        | with_reducible refine r_blk_miss rfl ?_
        | with_reducible refine r_skip ?_
        | with_reducible refine r_exit ?_
        | with_reducible refine r_ret ?_
        | with_reducible refine r_rq_exit ?_
        | with_reducible refine r_rq_ret ?_
        | ((with_reducible apply r_regA); (focus (simp only [List.append_eq, List.cons_append, List.nil_append] <;> rfl)); (focus (first | exact Nat.le_of_ble_eq_true rfl | (simp only [List.length_cons, List.length_nil]; omega))))
        | ((with_reducible refine r_reg (List.toList_toArray) ?_ ?_); focus (first | exact Nat.le_of_ble_eq_true rfl | (simp only [List.length_cons, List.length_nil]; omega)))
        | ((with_reducible apply r_end); focus (simp only [Nat.reduceAdd, Nat.zero_add] <;> rfl))
        | ((with_reducible (first | apply r_any | apply r_cond)); focus (simp only [↓reduceIte, wantedA_eq, gBool_t, clsOf, clsCall, newBlk, allocOp, Fr.ev, evs, ofV, ofA, ofS, nVar, AV.cells, rowOf_mk, put_mk, upd_mk, keyOf_mk, pureOp, readOp, pFA, pFA1, pFA2, rLd, rdAB_row, oneCell_one, hget_same, pBin, binA, intOp_eql, intOp_leq, pPick, List.length_cons, List.length_nil, List.getElem?_cons_zero, List.getElem?_cons_succ, List.drop_zero, List.drop_succ_cons, List.take_succ_cons, List.take_zero, Nat.zero_add, Nat.add_zero, Nat.reduceAdd, Nat.reduceLT, Nat.reduceLeDiff, Nat.reduceEqDiff, Nat.reduceSub, Nat.add_eq, loadA_w, loadW_s, callTo_s, heavyCall, target, List.nil_append, List.append_nil, binA, beq_self_eq_true, Int.reduceBEq, stepOp, stHeavy, stV_mk, stB_mk, stO_mk, T.get_n, T.set_n, T.set_e, Nat.reduceDiv, Nat.reduceMod, sz2, ag2, sz3, ag3, sz9, ag9, Tryz.underlying9, Tryz.underlying79, stepAny, wantedA_none, rCall, rLen, rLen1_str, lenA, K2f, k2_fn, hlen, hl1] <;> rfl))
        | (with_reducible rw [ifQ_t])
        | (with_reducible rw [ifQ_f])
        | (with_reducible refine ifQ_intro ?_ ?_ <;> intro hb))
        subst hQ
        refine ret_back (by simp only [Tryz.results73, resultOf, resultsA, resultA, List.toList_toArray, Fr.ev, T.get_n, Nat.reduceDiv, Nat.reduceMod, Nat.reduceSub, Nat.reduceEqDiff, ↓reduceIte] <;> rfl) ⟨_, out_b ?_, ?_⟩
        · simp [dec_iff, vOk, hl]
        repeat (first | exact Same.base _ _ _ | exact Same.refl _ | refine Same.hset hw ?_ (ky_le _ _))
      · have hl1 := hlf hl
        refine sndQ_body (K := K2) k2_ok mixed noNum (m := 0) Tryz.func73 ?_
        generalize hQ : retQ _ _ _ _ _ _ = Q0
        refine body_go (c := Tryz.f73.body.getD .skip) (n := 31) rfl rfl (by simp only [↓reduceIte, T.setList, T.set_e] <;> rfl) ?_
        simp only [Tryz.f73, Option.getD_some]
        repeat' (first
        | with_reducible refine r_seq ?_
        | with_reducible refine r_next ?_
        | with_reducible refine r_block ?_
        | with_reducible refine r_seq_exit ?_
        | with_reducible refine r_seq_ret ?_
        | with_reducible refine r_blk_n ?_
        | with_reducible refine r_blk_ret ?_
        | with_reducible refine r_blk_hit ?_
        | with_reducible refine r_blk_miss rfl ?_
        | with_reducible refine r_skip ?_
        | with_reducible refine r_exit ?_
        | with_reducible refine r_ret ?_
        | with_reducible refine r_rq_exit ?_
        | with_reducible refine r_rq_ret ?_
        | ((with_reducible apply r_regA); (focus (simp only [List.append_eq, List.cons_append, List.nil_append] <;> rfl)); (focus (first | exact Nat.le_of_ble_eq_true rfl | (simp only [List.length_cons, List.length_nil]; omega))))
        | ((with_reducible refine r_reg (List.toList_toArray) ?_ ?_); focus (first | exact Nat.le_of_ble_eq_true rfl | (simp only [List.length_cons, List.length_nil]; omega)))
        | ((with_reducible apply r_end); focus (simp only [Nat.reduceAdd, Nat.zero_add] <;> rfl))
        | ((with_reducible (first | apply r_any | apply r_cond)); focus (simp only [↓reduceIte, wantedA_eq, gBool_t, clsOf, clsCall, newBlk, allocOp, Fr.ev, ofV, ofA, ofS, nVar, AV.cells, rowOf_mk, put_mk, upd_mk, keyOf_mk, pureOp, readOp, pFA, pFA1, pFA2, rLd, rdAB_row, oneCell_one, hget_same, pBin, binA, intOp_eql, intOp_leq, pPick, List.length_cons, List.length_nil, List.getElem?_cons_zero, List.getElem?_cons_succ, List.drop_zero, List.drop_succ_cons, List.take_succ_cons, List.take_zero, Nat.zero_add, Nat.add_zero, Nat.reduceAdd, Nat.reduceLT, Nat.reduceLeDiff, Nat.reduceEqDiff, Nat.reduceSub, Nat.add_eq, loadA_w, loadW_s, binA, beq_self_eq_true, Int.reduceBEq, stepOp, stV_mk, stB_mk, T.get_n, T.set_n, T.set_e, Nat.reduceDiv, Nat.reduceMod, sz2, ag2, sz3, ag3, sz9, ag9, Tryz.underlying9, Tryz.underlying79, stepAny, wantedA_none, rCall, rLen, rLen1_str, lenA, hl1] <;> rfl))
        | (with_reducible rw [ifQ_t])
        | (with_reducible rw [ifQ_f])
        | (with_reducible refine ifQ_intro ?_ ?_ <;> intro hb))
        subst hQ
        refine ret_back (by simp only [Tryz.results73, resultOf, resultsA, resultA, List.toList_toArray, Fr.ev, T.get_n, Nat.reduceDiv, Nat.reduceMod, Nat.reduceSub, Nat.reduceEqDiff, ↓reduceIte] <;> rfl) ⟨_, out_f ?_, ?_⟩
        · simp [vOk, hl]
        repeat (first | exact Same.base _ _ _ | exact Same.refl _ | refine Same.hset hw ?_ (ky_le _ _))
    · have hn0 : (n == 0) = false := by simp [n0]
      refine sndQ_body (K := K2) k2_ok mixed noNum (m := 0) Tryz.func73 ?_
      generalize hQ : retQ _ _ _ _ _ _ = Q0
      refine body_go (c := Tryz.f73.body.getD .skip) (n := 31) rfl rfl (by simp only [↓reduceIte, T.setList, T.set_e] <;> rfl) ?_
      simp only [Tryz.f73, Option.getD_some]
      repeat' (first
      | with_reducible refine r_seq ?_
      | with_reducible refine r_next ?_
      | with_reducible refine r_block ?_
      | with_reducible refine r_seq_exit ?_
      | with_reducible refine r_seq_ret ?_
      | with_reducible refine r_blk_n ?_
      | with_reducible refine r_blk_ret ?_
      | with_reducible refine r_blk_hit ?_
      | with_reducible refine r_blk_miss rfl ?_
      | with_reducible refine r_skip ?_
      | with_reducible refine r_exit ?_
      | with_reducible refine r_ret ?_
      | with_reducible refine r_rq_exit ?_
      | with_reducible refine r_rq_ret ?_
      | ((with_reducible apply r_regA); (focus (simp only [List.append_eq, List.cons_append, List.nil_append] <;> rfl)); (focus (first | exact Nat.le_of_ble_eq_true rfl | (simp only [List.length_cons, List.length_nil]; omega))))
      | ((with_reducible refine r_reg (List.toList_toArray) ?_ ?_); focus (first | exact Nat.le_of_ble_eq_true rfl | (simp only [List.length_cons, List.length_nil]; omega)))
      | ((with_reducible apply r_end); focus (simp only [Nat.reduceAdd, Nat.zero_add] <;> rfl))
      | ((with_reducible (first | apply r_any | apply r_cond)); focus (simp only [↓reduceIte, wantedA_eq, gBool_t, clsOf, newBlk, allocOp, Fr.ev, ofV, ofA, ofS, nVar, AV.cells, rowOf_mk, put_mk, upd_mk, keyOf_mk, pureOp, readOp, pFA, pFA1, pFA2, rLd, rdAB_row, oneCell_one, hget_same, pBin, binA, intOp_eql, pPick, List.length_cons, List.length_nil, List.getElem?_cons_zero, List.getElem?_cons_succ, List.drop_zero, List.drop_succ_cons, List.take_succ_cons, List.take_zero, Nat.zero_add, Nat.add_zero, Nat.reduceAdd, Nat.reduceLT, Nat.reduceLeDiff, Nat.reduceEqDiff, Nat.reduceSub, Nat.add_eq, loadA_w, loadW_s, binA, beq_self_eq_true, Int.reduceBEq, stepOp, stV_mk, stB_mk, T.get_n, T.set_n, T.set_e, Nat.reduceDiv, Nat.reduceMod, sz2, ag2, sz3, ag3, Tryz.underlying79, stepAny, wantedA_none, hn0] <;> rfl))
      | (with_reducible rw [ifQ_t])
      | (with_reducible rw [ifQ_f])
      | (with_reducible refine ifQ_intro ?_ ?_ <;> intro hb))
      subst hQ
      refine ret_back (by simp only [Tryz.results73, resultOf, resultsA, resultA, List.toList_toArray, Fr.ev, T.get_n, Nat.reduceDiv, Nat.reduceMod, Nat.reduceSub, Nat.reduceEqDiff, ↓reduceIte] <;> rfl) ⟨_, out_f ?_, ?_⟩
      · simp [vOk, n0]
      repeat (first | exact Same.base _ _ _ | exact Same.refl _ | refine Same.hset hw ?_ (ky_le _ _))
  have hk0 : (k == 0) = false := by simp [k0]
  have hk1 : (k == 1) = false := by simp [k1]
  have hk2 : (k == 2) = false := by simp [k2]
  refine sndQ_body (K := K2) k2_ok mixed noNum (m := 0) Tryz.func73 ?_
  generalize hQ : retQ _ _ _ _ _ _ = Q0
  refine body_go (c := Tryz.f73.body.getD .skip) (n := 31) rfl rfl (by simp only [↓reduceIte, T.setList, T.set_e] <;> rfl) ?_
  simp only [Tryz.f73, Option.getD_some]
  repeat' (first
  | with_reducible refine r_seq ?_
  | with_reducible refine r_next ?_
  | with_reducible refine r_block ?_
  | with_reducible refine r_seq_exit ?_
  | with_reducible refine r_seq_ret ?_
  | with_reducible refine r_blk_n ?_
  | with_reducible refine r_blk_ret ?_
  | with_reducible refine r_blk_hit ?_
  | with_reducible refine r_blk_miss rfl ?_
  | with_reducible refine r_skip ?_
  | with_reducible refine r_exit ?_
  | with_reducible refine r_ret ?_
  | with_reducible refine r_rq_exit ?_
  | with_reducible refine r_rq_ret ?_
  | ((with_reducible apply r_regA); (focus (simp only [List.append_eq, List.cons_append, List.nil_append] <;> rfl)); (focus (first | exact Nat.le_of_ble_eq_true rfl | (simp only [List.length_cons, List.length_nil]; omega))))
  | ((with_reducible refine r_reg (List.toList_toArray) ?_ ?_); focus (first | exact Nat.le_of_ble_eq_true rfl | (simp only [List.length_cons, List.length_nil]; omega)))
  | ((with_reducible apply r_end); focus (simp only [Nat.reduceAdd, Nat.zero_add] <;> rfl))
  | ((with_reducible (first | apply r_any | apply r_cond)); focus (simp only [↓reduceIte, clsOf, newBlk, allocOp, Fr.ev, ofV, ofA, ofS, nVar, AV.cells, rowOf_mk, put_mk, upd_mk, keyOf_mk, pureOp, readOp, pFA, pFA1, pFA2, rLd, rdAB_row, oneCell_one, hget_same, pBin, binA, intOp_eql, List.length_cons, List.length_nil, List.getElem?_cons_zero, List.drop_zero, List.take_succ_cons, List.take_zero, Nat.zero_add, Nat.add_zero, Nat.reduceAdd, Nat.reduceLT, Nat.reduceLeDiff, Nat.reduceEqDiff, Nat.reduceSub, Nat.add_eq, loadA_w, loadW_s, binA, stepOp, stV_mk, stB_mk, T.get_n, T.set_n, T.set_e, Nat.reduceDiv, Nat.reduceMod, sz3, ag3, Tryz.underlying79, stepAny, wantedA_none, hk0, hk1, hk2] <;> rfl))
  | (with_reducible rw [ifQ_t])
  | (with_reducible rw [ifQ_f])
  | (with_reducible refine ifQ_intro ?_ ?_ <;> intro hb))
  subst hQ
  refine ret_back (by simp only [Tryz.results73, resultOf, resultsA, resultA, List.toList_toArray, Fr.ev, T.get_n, Nat.reduceDiv, Nat.reduceMod, Nat.reduceSub, Nat.reduceEqDiff, ↓reduceIte] <;> rfl) ⟨_, out_f ?_, ?_⟩
  · simp [vOk, k0, k1, k2]
  repeat (first | exact Same.base _ _ _ | exact Same.refl _ | refine Same.hset hw ?_ (ky_le _ _))


end Go.Proofs.YtlbjmpbgnbpcoaaGreatDoor

namespace Go.Proofs.YtlbjmpbgnbpcoaaGreatDoor
open Go Go.Ai
set_option maxRecDepth 100000

theorem vv_text (h : Heap) (F : Nat) (n : Int) (t : List UInt8) (hs : t.length ≤ maxLen) : Snd Tryz.prog [] 76 [.agg [.int .i64 2, .int .i64 n, .str t]] ⟨h, F⟩ [.val (.bool (dec (vOk 2 n t))) ⟨h, F⟩] := by
  have mxl : maxLen = 9223372036854775807 := by decide
  refine snd_val (by simp [Kin]) fun hw => ?_
  refine sndQ_body (K := K2) k2_ok mixed noNum (m := t.length + 1) Tryz.func76 ?_
  generalize hQ : retQ _ _ _ _ _ _ = Q0
  refine body_go (c := Tryz.f76.body.getD .skip) (n := 45) rfl rfl (by simp only [↓reduceIte, T.setList, T.set_e] <;> rfl) ?_
  simp only [Tryz.f76, Option.getD_some]
  repeat' (first
  | with_reducible refine r_seq ?_
  | with_reducible refine r_next ?_
  | with_reducible refine r_block ?_
  | with_reducible refine r_seq_exit ?_
  | with_reducible refine r_seq_ret ?_
  | with_reducible refine r_blk_n ?_
  | with_reducible refine r_blk_ret ?_
  | with_reducible refine r_blk_hit ?_
  | with_reducible refine r_blk_miss rfl ?_
  | with_reducible refine r_skip ?_
  | with_reducible refine r_exit ?_
  | with_reducible refine r_ret ?_
  | with_reducible refine r_rq_exit ?_
  | with_reducible refine r_rq_ret ?_
  | ((with_reducible apply r_regA); (focus (simp only [List.append_eq, List.cons_append, List.nil_append] <;> rfl)); (focus (first | exact Nat.le_of_ble_eq_true rfl | (simp only [List.length_cons, List.length_nil]; omega))))
  | ((with_reducible refine r_reg (List.toList_toArray) ?_ ?_); focus (first | exact Nat.le_of_ble_eq_true rfl | (simp only [List.length_cons, List.length_nil]; omega)))
  | ((with_reducible apply r_end); focus (simp only [Nat.reduceAdd, Nat.zero_add] <;> rfl))
  | ((with_reducible (first | apply r_any | apply r_cond)); focus (simp only [↓reduceIte, clsOf, newBlk, allocOp, Fr.ev, ofV, ofA, ofS, nVar, AV.cells, rowOf_mk, put_mk, upd_mk, keyOf_mk, pureOp, readOp, pFA, pFA1, pFA2, rLd, rdAB_row, oneCell_one, hget_same, pBin, binA, intOp_eql, List.length_cons, List.length_nil, List.getElem?_cons_zero, List.drop_zero, List.take_succ_cons, List.take_zero, Nat.zero_add, Nat.add_zero, Nat.reduceAdd, Nat.reduceLT, Nat.reduceLeDiff, Nat.reduceEqDiff, Nat.reduceSub, Nat.add_eq, loadA_w, loadW_s, binA, beq_self_eq_true, Int.reduceBEq, stepOp, stV_mk, stB_mk, T.get_n, T.set_n, T.set_e, Nat.reduceDiv, Nat.reduceMod, sz3, ag3, Tryz.underlying79, stepAny, wantedA_none] <;> rfl))
  | (with_reducible rw [ifQ_t])
  | (with_reducible rw [ifQ_f])
  | (with_reducible refine ifQ_intro ?_ ?_ <;> intro hb))
  · refine r_loop (I := fun nn fr s1 => ∃ lc tt h1 i, fr = ⟨F, lc, 45, tt, [], .no⟩ ∧ s1 = ⟨h1, F + 1⟩ ∧ i ≤ t.length ∧ nn = t.length - i ∧ 2 ≤ lc ∧ lc + nn * 1000 ≤ 100000000000000000000000000 ∧ SameH h h1 ∧ tt.get 1 = some (.ptr (ky F 0) 0) ∧ tt.get 3 = some (.int .i64 i) ∧ hget h1 (ky F 0) = some (mkRow [.int .i64 2, .int .i64 n, .str t] 0) ∧ (∀ j (hj : j < i) (hjl : j < t.length), plainB t[j])) (n := t.length) ?_ ?_ ?_
    · omega
    · exact ⟨_, _, _, 0, rfl, rfl, Nat.zero_le _, (Nat.sub_zero _).symm, by first | omega | exact Nat.le_of_ble_eq_true rfl, by omega, (by repeat (first | exact SameH.refl _ | refine SameH.hset hw ?_ (ky_le _ _))), (by first | rfl | (simp only [Nat.reduceLT, Tget_set, T.get_n, T.get_e, Nat.reduceEqDiff, Nat.reduceDiv, Nat.reduceMod, Nat.reduceSub, ↓reduceIte, if_true, if_false, hget_same, hget_hset_ite, ky_inj, Nat.reduceAdd, Nat.zero_add] <;> rfl)), (by first | rfl | (simp only [Nat.reduceLT, Tget_set, T.get_n, T.get_e, Nat.reduceEqDiff, Nat.reduceDiv, Nat.reduceMod, Nat.reduceSub, ↓reduceIte, if_true, if_false, hget_same, hget_hset_ite, ky_inj, Nat.reduceAdd, Nat.zero_add] <;> rfl)), (by first | rfl | (simp only [hget_same] <;> rfl)), fun j hj => absurd hj (Nat.not_lt_zero _)⟩
    rintro nn fr s1 ⟨lc, tt, h1, i, rfl, rfl, hi, rfl, hl0, hlc, hS, ht1, ht3, hc0, hI⟩
    by_cases hil : i < t.length
    · have hc : t[i]? = some t[i] := by simp [hil]
      repeat' (first
      | with_reducible refine r_seq ?_
      | with_reducible refine r_next ?_
      | with_reducible refine r_block ?_
      | with_reducible refine r_seq_exit ?_
      | with_reducible refine r_seq_ret ?_
      | with_reducible refine r_blk_n ?_
      | with_reducible refine r_blk_ret ?_
      | with_reducible refine r_blk_hit ?_
      | with_reducible refine r_blk_miss rfl ?_
      | with_reducible refine r_skip ?_
      | with_reducible refine r_exit ?_
      | with_reducible refine r_ret ?_
      | with_reducible refine r_rq_exit ?_
      | with_reducible refine r_rq_ret ?_
      | ((with_reducible apply r_regA); (focus (simp only [List.append_eq, List.cons_append, List.nil_append] <;> rfl)); (focus (first | exact Nat.le_of_ble_eq_true rfl | (simp only [List.length_cons, List.length_nil]; omega))))
      | ((with_reducible refine r_reg (List.toList_toArray) ?_ ?_); focus (first | exact Nat.le_of_ble_eq_true rfl | (simp only [List.length_cons, List.length_nil]; omega)))
      | ((with_reducible apply r_end); focus (simp only [Nat.add_assoc, Nat.reduceAdd, Nat.zero_add] <;> rfl))
      | ((with_reducible (first | apply r_any | apply r_cond)); focus (simp only [↓reduceIte, clsOf, clsCall, Fr.ev, evs, ofV, ofA, ofS, put_mk, pureOp, readOp, pFA, pFA1, pFA2, rLd, rdAB_row, oneCell_one, pBin, binA, intOp_lss, List.length_cons, List.length_nil, List.getElem?_cons_zero, List.getElem?_cons_succ, List.drop_zero, List.drop_succ_cons, List.take_succ_cons, List.take_zero, Nat.zero_add, Nat.reduceAdd, Nat.reduceLT, Nat.reduceLeDiff, Nat.reduceEqDiff, Nat.add_eq, loadA_w, loadW_s, pUn_not, callTo_s, heavyCall, target, List.nil_append, List.append_nil, binA, stepOp, stHeavy, stV_mk, stO_mk, sz9, ag9, Tryz.underlying9, Tryz.underlying79, stepAny, wantedA_none, rCall, rLen, rLen1_str, lenA, K2f, K1f, k2_fn, Tget_set, ht1, ht3, hc0, lt_t hil, natOf_c, hc, pIx, pIx1, pIx2, intOp_add (inR_succ hil hs)] <;> rfl))
      | (with_reducible rw [ifQ_t])
      | (with_reducible rw [ifQ_f])
      | (with_reducible refine ifQ_intro ?_ ?_ <;> intro hb))
      · subst hQ
        refine ret_back (by simp only [Tryz.results76, resultOf, resultsA, resultA, List.toList_toArray, Fr.ev, Tget_set, ↓reduceIte] <;> rfl) ⟨_, out_f fun hA => ?_, ?_⟩
        · have hA : 2 = 2 ∧ n = 0 ∧ t.length ≤ 64 ∧ ∀ c ∈ t, plainB c := by simpa [vOk] using hA
          rw [dec_t ((plain_dec _).2 (hA.2.2.2 _ (List.getElem_mem hil)))] at hb; cases hb
        repeat (first | exact Same.base _ _ _ | exact hS | refine Same.hset hw ?_ (ky_le _ _))
      · have hp : plainB t[i] := (plain_dec _).1 (dec_iff.1 (by simpa using hb))
        refine r_rq_n (k := t.length - (i + 1)) (by omega) ⟨_, _, _, i + 1, rfl, rfl, by omega, rfl, by omega, by omega, hS, (by simp only [Tget_set, Nat.reduceEqDiff, ↓reduceIte, Tget_set, ht1] <;> rfl), (by simp only [Tget_set, ↓reduceIte, Tget_set] <;> rfl), (by simp only [hc0] <;> rfl), fun j hj hjl => by rcases Nat.lt_or_ge j i with hji | hji; exact hI j hji hjl; obtain rfl : j = i := (by omega); exact hp⟩
    · have hend : i = t.length := by omega
      have hall : ∀ c ∈ t, plainB c := fun c hc => by
        obtain ⟨j, hj, rfl⟩ := List.getElem_of_mem hc
        exact hI j (by omega) hj
      by_cases n0 : n = 0
      · subst n0
        by_cases hl : t.length ≤ 64
        · have hl1 : decide ((t.length : Int) ≤ 64) = true := decide_eq_true (by omega)
          repeat' (first
          | with_reducible refine r_seq ?_
          | with_reducible refine r_next ?_
          | with_reducible refine r_block ?_
          | with_reducible refine r_seq_exit ?_
          | with_reducible refine r_seq_ret ?_
          | with_reducible refine r_blk_n ?_
          | with_reducible refine r_blk_ret ?_
          | with_reducible refine r_blk_hit ?_
          | with_reducible refine r_blk_miss rfl ?_
          | with_reducible refine r_skip ?_
          | with_reducible refine r_exit ?_
          | with_reducible refine r_ret ?_
          | with_reducible refine r_rq_exit ?_
          | with_reducible refine r_rq_ret ?_
          | ((with_reducible apply r_regA); (focus (simp only [List.append_eq, List.cons_append, List.nil_append] <;> rfl)); (focus (first | exact Nat.le_of_ble_eq_true rfl | (simp only [List.length_cons, List.length_nil]; omega))))
          | ((with_reducible refine r_reg (List.toList_toArray) ?_ ?_); focus (first | exact Nat.le_of_ble_eq_true rfl | (simp only [List.length_cons, List.length_nil]; omega)))
          | ((with_reducible apply r_end); focus (simp only [Nat.add_assoc, Nat.reduceAdd, Nat.zero_add] <;> rfl))
          | ((with_reducible (first | apply r_any | apply r_cond)); focus (simp only [↓reduceIte, wantedA_eq, gBool_t, clsOf, clsCall, Fr.ev, ofV, ofA, ofS, put_mk, pureOp, readOp, pFA, pFA1, pFA2, rLd, rdAB_row, oneCell_one, pBin, binA, intOp_eql, intOp_lss, intOp_leq, pPick, List.length_cons, List.length_nil, List.getElem?_cons_zero, List.getElem?_cons_succ, List.drop_zero, List.drop_succ_cons, List.take_succ_cons, List.take_zero, Nat.zero_add, Nat.reduceAdd, Nat.reduceLT, Nat.reduceLeDiff, Nat.reduceEqDiff, Nat.add_eq, loadA_w, loadW_s, binA, beq_self_eq_true, stepOp, stV_mk, sz2, ag2, sz9, ag9, Tryz.underlying9, Tryz.underlying79, stepAny, wantedA_none, rCall, rLen, rLen1_str, lenA, Tget_set, ht1, ht3, hc0, lt_f hil, hl1] <;> rfl))
          | (with_reducible rw [ifQ_t])
          | (with_reducible rw [ifQ_f])
          | (with_reducible refine ifQ_intro ?_ ?_ <;> intro hb))
          subst hQ
          refine ret_back (by simp only [Tryz.results76, resultOf, resultsA, resultA, List.toList_toArray, Fr.ev, Tget_set, ↓reduceIte] <;> rfl) ⟨_, out_b ?_, ?_⟩
          · simp [vOk, hl]; exact hall
          repeat (first | exact Same.base _ _ _ | exact hS | refine Same.hset hw ?_ (ky_le _ _))
        · have hl1 : decide ((t.length : Int) ≤ 64) = false := decide_eq_false (by omega)
          repeat' (first
          | with_reducible refine r_seq ?_
          | with_reducible refine r_next ?_
          | with_reducible refine r_block ?_
          | with_reducible refine r_seq_exit ?_
          | with_reducible refine r_seq_ret ?_
          | with_reducible refine r_blk_n ?_
          | with_reducible refine r_blk_ret ?_
          | with_reducible refine r_blk_hit ?_
          | with_reducible refine r_blk_miss rfl ?_
          | with_reducible refine r_skip ?_
          | with_reducible refine r_exit ?_
          | with_reducible refine r_ret ?_
          | with_reducible refine r_rq_exit ?_
          | with_reducible refine r_rq_ret ?_
          | ((with_reducible apply r_regA); (focus (simp only [List.append_eq, List.cons_append, List.nil_append] <;> rfl)); (focus (first | exact Nat.le_of_ble_eq_true rfl | (simp only [List.length_cons, List.length_nil]; omega))))
          | ((with_reducible refine r_reg (List.toList_toArray) ?_ ?_); focus (first | exact Nat.le_of_ble_eq_true rfl | (simp only [List.length_cons, List.length_nil]; omega)))
          | ((with_reducible apply r_end); focus (simp only [Nat.add_assoc, Nat.reduceAdd, Nat.zero_add] <;> rfl))
          | ((with_reducible (first | apply r_any | apply r_cond)); focus (simp only [↓reduceIte, wantedA_eq, gBool_t, clsOf, clsCall, Fr.ev, ofV, ofA, ofS, put_mk, pureOp, readOp, pFA, pFA1, pFA2, rLd, rdAB_row, oneCell_one, pBin, binA, intOp_eql, intOp_lss, intOp_leq, pPick, List.length_cons, List.length_nil, List.getElem?_cons_zero, List.getElem?_cons_succ, List.drop_zero, List.drop_succ_cons, List.take_succ_cons, List.take_zero, Nat.zero_add, Nat.reduceAdd, Nat.reduceLT, Nat.reduceLeDiff, Nat.reduceEqDiff, Nat.add_eq, loadA_w, loadW_s, binA, beq_self_eq_true, stepOp, stV_mk, sz2, ag2, sz9, ag9, Tryz.underlying9, Tryz.underlying79, stepAny, wantedA_none, rCall, rLen, rLen1_str, lenA, Tget_set, ht1, ht3, hc0, lt_f hil, hl1] <;> rfl))
          | (with_reducible rw [ifQ_t])
          | (with_reducible rw [ifQ_f])
          | (with_reducible refine ifQ_intro ?_ ?_ <;> intro hb))
          subst hQ
          refine ret_back (by simp only [Tryz.results76, resultOf, resultsA, resultA, List.toList_toArray, Fr.ev, Tget_set, ↓reduceIte] <;> rfl) ⟨_, out_f ?_, ?_⟩
          · simp [vOk, hl]
          repeat (first | exact Same.base _ _ _ | exact hS | refine Same.hset hw ?_ (ky_le _ _))
      · have hn0 : (n == 0) = false := by simp [n0]
        repeat' (first
        | with_reducible refine r_seq ?_
        | with_reducible refine r_next ?_
        | with_reducible refine r_block ?_
        | with_reducible refine r_seq_exit ?_
        | with_reducible refine r_seq_ret ?_
        | with_reducible refine r_blk_n ?_
        | with_reducible refine r_blk_ret ?_
        | with_reducible refine r_blk_hit ?_
        | with_reducible refine r_blk_miss rfl ?_
        | with_reducible refine r_skip ?_
        | with_reducible refine r_exit ?_
        | with_reducible refine r_ret ?_
        | with_reducible refine r_rq_exit ?_
        | with_reducible refine r_rq_ret ?_
        | ((with_reducible apply r_regA); (focus (simp only [List.append_eq, List.cons_append, List.nil_append] <;> rfl)); (focus (first | exact Nat.le_of_ble_eq_true rfl | (simp only [List.length_cons, List.length_nil]; omega))))
        | ((with_reducible refine r_reg (List.toList_toArray) ?_ ?_); focus (first | exact Nat.le_of_ble_eq_true rfl | (simp only [List.length_cons, List.length_nil]; omega)))
        | ((with_reducible apply r_end); focus (simp only [Nat.add_assoc, Nat.reduceAdd, Nat.zero_add] <;> rfl))
        | ((with_reducible (first | apply r_any | apply r_cond)); focus (simp only [↓reduceIte, wantedA_eq, gBool_t, clsOf, clsCall, Fr.ev, ofV, ofA, ofS, put_mk, pureOp, readOp, pFA, pFA1, pFA2, rLd, rdAB_row, oneCell_one, pBin, binA, intOp_eql, intOp_lss, pPick, List.length_cons, List.length_nil, List.getElem?_cons_zero, List.getElem?_cons_succ, List.drop_zero, List.drop_succ_cons, List.take_succ_cons, List.take_zero, Nat.zero_add, Nat.reduceAdd, Nat.reduceLT, Nat.reduceLeDiff, Nat.reduceEqDiff, Nat.add_eq, loadA_w, loadW_s, binA, stepOp, stV_mk, sz2, ag2, sz9, ag9, Tryz.underlying9, Tryz.underlying79, stepAny, wantedA_none, rCall, rLen, rLen1_str, lenA, Tget_set, ht1, ht3, hc0, lt_f hil, hn0] <;> rfl))
        | (with_reducible rw [ifQ_t])
        | (with_reducible rw [ifQ_f])
        | (with_reducible refine ifQ_intro ?_ ?_ <;> intro hb))
        subst hQ
        refine ret_back (by simp only [Tryz.results76, resultOf, resultsA, resultA, List.toList_toArray, Fr.ev, Tget_set, ↓reduceIte] <;> rfl) ⟨_, out_f ?_, ?_⟩
        · simp [vOk, n0]
        repeat (first | exact Same.base _ _ _ | exact hS | refine Same.hset hw ?_ (ky_le _ _))

theorem vvalid_ok (h : Heap) (F : Nat) (k n : Int) (t : List UInt8) (ht : t.length ≤ maxLen) : Snd Tryz.prog [] 76 [.agg [.int .i64 k, .int .i64 n, .str t]] ⟨h, F⟩ [.val (.bool (dec (vOk k n t))) ⟨h, F⟩] := by
  by_cases k2 : k = 2
  · subst k2; exact vv_text h F n t ht
  refine snd_val (by simp [Kin]) fun hw => ?_
  have hlen := lenOk_t ht
  have hln : t.length ≤ 64 → decide ((t.length : Int) ≤ 64) = true := fun h => decide_eq_true (by omega)
  have hlf : ¬ t.length ≤ 64 → decide ((t.length : Int) ≤ 64) = false := fun h => decide_eq_false (by omega)
  by_cases k0 : k = 0
  · subst k0
    by_cases n0 : n = 0
    · subst n0
      refine sndQ_body (K := K2) k2_ok mixed noNum (m := 0) Tryz.func76 ?_
      generalize hQ : retQ _ _ _ _ _ _ = Q0
      refine body_go (c := Tryz.f76.body.getD .skip) (n := 45) rfl rfl (by simp only [↓reduceIte, T.setList, T.set_e] <;> rfl) ?_
      simp only [Tryz.f76, Option.getD_some]
      repeat' (first
      | with_reducible refine r_seq ?_
      | with_reducible refine r_next ?_
      | with_reducible refine r_block ?_
      | with_reducible refine r_seq_exit ?_
      | with_reducible refine r_seq_ret ?_
      | with_reducible refine r_blk_n ?_
      | with_reducible refine r_blk_ret ?_
      | with_reducible refine r_blk_hit ?_
      | with_reducible refine r_blk_miss rfl ?_
      | with_reducible refine r_skip ?_
      | with_reducible refine r_exit ?_
      | with_reducible refine r_ret ?_
      | with_reducible refine r_rq_exit ?_
      | with_reducible refine r_rq_ret ?_
      | ((with_reducible apply r_regA); (focus (simp only [List.append_eq, List.cons_append, List.nil_append] <;> rfl)); (focus (first | exact Nat.le_of_ble_eq_true rfl | (simp only [List.length_cons, List.length_nil]; omega))))
      | ((with_reducible refine r_reg (List.toList_toArray) ?_ ?_); focus (first | exact Nat.le_of_ble_eq_true rfl | (simp only [List.length_cons, List.length_nil]; omega)))
      | ((with_reducible apply r_end); focus (simp only [Nat.reduceAdd, Nat.zero_add] <;> rfl))
      | ((with_reducible (first | apply r_any | apply r_cond)); focus (simp only [↓reduceIte, wantedA_eq, gBool_t, clsOf, newBlk, allocOp, Fr.ev, ofV, ofA, ofS, nVar, AV.cells, rowOf_mk, put_mk, upd_mk, keyOf_mk, pureOp, readOp, pFA, pFA1, pFA2, rLd, rdAB_row, oneCell_one, hget_same, pBin, binA, intOp_eql, pPick, List.length_cons, List.length_nil, List.getElem?_cons_zero, List.getElem?_cons_succ, List.drop_zero, List.drop_succ_cons, List.take_succ_cons, List.take_zero, Nat.zero_add, Nat.add_zero, Nat.reduceAdd, Nat.reduceLT, Nat.reduceLeDiff, Nat.reduceEqDiff, Nat.reduceSub, Nat.add_eq, loadA_w, loadW_s, binA, beq_self_eq_true, stepOp, stV_mk, stB_mk, T.get_n, T.set_n, T.set_e, Nat.reduceDiv, Nat.reduceMod, sz2, ag2, sz3, ag3, sz9, ag9, Tryz.underlying79, stepAny, wantedA_none, strOp] <;> rfl))
      | (with_reducible rw [ifQ_t])
      | (with_reducible rw [ifQ_f])
      | (with_reducible refine ifQ_intro ?_ ?_ <;> intro hb))
      subst hQ
      refine ret_back (by simp only [Tryz.results76, resultOf, resultsA, resultA, List.toList_toArray, Fr.ev, T.get_n, Nat.reduceDiv, Nat.reduceMod, Nat.reduceSub, Nat.reduceEqDiff, ↓reduceIte] <;> rfl) ⟨_, out_b ?_, ?_⟩
      · simp [vOk]
      repeat (first | exact Same.base _ _ _ | exact Same.refl _ | refine Same.hset hw ?_ (ky_le _ _))
    · have hn0 : (n == 0) = false := by simp [n0]
      refine sndQ_body (K := K2) k2_ok mixed noNum (m := 0) Tryz.func76 ?_
      generalize hQ : retQ _ _ _ _ _ _ = Q0
      refine body_go (c := Tryz.f76.body.getD .skip) (n := 45) rfl rfl (by simp only [↓reduceIte, T.setList, T.set_e] <;> rfl) ?_
      simp only [Tryz.f76, Option.getD_some]
      repeat' (first
      | with_reducible refine r_seq ?_
      | with_reducible refine r_next ?_
      | with_reducible refine r_block ?_
      | with_reducible refine r_seq_exit ?_
      | with_reducible refine r_seq_ret ?_
      | with_reducible refine r_blk_n ?_
      | with_reducible refine r_blk_ret ?_
      | with_reducible refine r_blk_hit ?_
      | with_reducible refine r_blk_miss rfl ?_
      | with_reducible refine r_skip ?_
      | with_reducible refine r_exit ?_
      | with_reducible refine r_ret ?_
      | with_reducible refine r_rq_exit ?_
      | with_reducible refine r_rq_ret ?_
      | ((with_reducible apply r_regA); (focus (simp only [List.append_eq, List.cons_append, List.nil_append] <;> rfl)); (focus (first | exact Nat.le_of_ble_eq_true rfl | (simp only [List.length_cons, List.length_nil]; omega))))
      | ((with_reducible refine r_reg (List.toList_toArray) ?_ ?_); focus (first | exact Nat.le_of_ble_eq_true rfl | (simp only [List.length_cons, List.length_nil]; omega)))
      | ((with_reducible apply r_end); focus (simp only [Nat.reduceAdd, Nat.zero_add] <;> rfl))
      | ((with_reducible (first | apply r_any | apply r_cond)); focus (simp only [↓reduceIte, wantedA_eq, gBool_t, clsOf, newBlk, allocOp, Fr.ev, ofV, ofA, ofS, nVar, AV.cells, rowOf_mk, put_mk, upd_mk, keyOf_mk, pureOp, readOp, pFA, pFA1, pFA2, rLd, rdAB_row, oneCell_one, hget_same, pBin, binA, intOp_eql, pPick, List.length_cons, List.length_nil, List.getElem?_cons_zero, List.getElem?_cons_succ, List.drop_zero, List.drop_succ_cons, List.take_succ_cons, List.take_zero, Nat.zero_add, Nat.add_zero, Nat.reduceAdd, Nat.reduceLT, Nat.reduceLeDiff, Nat.reduceEqDiff, Nat.reduceSub, Nat.add_eq, loadA_w, loadW_s, binA, beq_self_eq_true, stepOp, stV_mk, stB_mk, T.get_n, T.set_n, T.set_e, Nat.reduceDiv, Nat.reduceMod, sz2, ag2, sz3, ag3, Tryz.underlying79, stepAny, wantedA_none, hn0] <;> rfl))
      | (with_reducible rw [ifQ_t])
      | (with_reducible rw [ifQ_f])
      | (with_reducible refine ifQ_intro ?_ ?_ <;> intro hb))
      subst hQ
      refine ret_back (by simp only [Tryz.results76, resultOf, resultsA, resultA, List.toList_toArray, Fr.ev, T.get_n, Nat.reduceDiv, Nat.reduceMod, Nat.reduceSub, Nat.reduceEqDiff, ↓reduceIte] <;> rfl) ⟨_, out_f ?_, ?_⟩
      · simp [vOk, n0]
      repeat (first | exact Same.base _ _ _ | exact Same.refl _ | refine Same.hset hw ?_ (ky_le _ _))
  by_cases k1 : k = 1
  · subst k1
    refine sndQ_body (K := K2) k2_ok mixed noNum (m := 0) Tryz.func76 ?_
    generalize hQ : retQ _ _ _ _ _ _ = Q0
    refine body_go (c := Tryz.f76.body.getD .skip) (n := 45) rfl rfl (by simp only [↓reduceIte, T.setList, T.set_e] <;> rfl) ?_
    simp only [Tryz.f76, Option.getD_some]
    repeat' (first
    | with_reducible refine r_seq ?_
    | with_reducible refine r_next ?_
    | with_reducible refine r_block ?_
    | with_reducible refine r_seq_exit ?_
    | with_reducible refine r_seq_ret ?_
    | with_reducible refine r_blk_n ?_
    | with_reducible refine r_blk_ret ?_
    | with_reducible refine r_blk_hit ?_
    | with_reducible refine r_blk_miss rfl ?_
    | with_reducible refine r_skip ?_
    | with_reducible refine r_exit ?_
    | with_reducible refine r_ret ?_
    | with_reducible refine r_rq_exit ?_
    | with_reducible refine r_rq_ret ?_
    | ((with_reducible apply r_regA); (focus (simp only [List.append_eq, List.cons_append, List.nil_append] <;> rfl)); (focus (first | exact Nat.le_of_ble_eq_true rfl | (simp only [List.length_cons, List.length_nil]; omega))))
    | ((with_reducible refine r_reg (List.toList_toArray) ?_ ?_); focus (first | exact Nat.le_of_ble_eq_true rfl | (simp only [List.length_cons, List.length_nil]; omega)))
    | ((with_reducible apply r_end); focus (simp only [Nat.reduceAdd, Nat.zero_add] <;> rfl))
    | ((with_reducible (first | apply r_any | apply r_cond)); focus (simp only [↓reduceIte, clsOf, newBlk, allocOp, Fr.ev, ofV, ofA, ofS, nVar, AV.cells, rowOf_mk, put_mk, upd_mk, keyOf_mk, pureOp, readOp, pFA, pFA1, pFA2, rLd, rdAB_row, oneCell_one, hget_same, pBin, binA, intOp_eql, List.length_cons, List.length_nil, List.getElem?_cons_zero, List.getElem?_cons_succ, List.drop_zero, List.drop_succ_cons, List.take_succ_cons, List.take_zero, Nat.zero_add, Nat.add_zero, Nat.reduceAdd, Nat.reduceLT, Nat.reduceLeDiff, Nat.reduceEqDiff, Nat.reduceSub, Nat.add_eq, loadA_w, loadW_s, binA, beq_self_eq_true, Int.reduceBEq, stepOp, stV_mk, stB_mk, T.get_n, T.set_n, T.set_e, Nat.reduceDiv, Nat.reduceMod, sz3, ag3, sz9, ag9, Tryz.underlying79, stepAny, wantedA_none, strOp] <;> rfl))
    | (with_reducible rw [ifQ_t])
    | (with_reducible rw [ifQ_f])
    | (with_reducible refine ifQ_intro ?_ ?_ <;> intro hb))
    subst hQ
    refine ret_back (by simp only [Tryz.results76, resultOf, resultsA, resultA, List.toList_toArray, Fr.ev, T.get_n, Nat.reduceDiv, Nat.reduceMod, Nat.reduceSub, Nat.reduceEqDiff, ↓reduceIte] <;> rfl) ⟨_, out_b ?_, ?_⟩
    · simp [vOk]
    repeat (first | exact Same.base _ _ _ | exact Same.refl _ | refine Same.hset hw ?_ (ky_le _ _))
  have hk0 : (k == 0) = false := by simp [k0]
  have hk1 : (k == 1) = false := by simp [k1]
  have hk2 : (k == 2) = false := by simp [k2]
  refine sndQ_body (K := K2) k2_ok mixed noNum (m := 0) Tryz.func76 ?_
  generalize hQ : retQ _ _ _ _ _ _ = Q0
  refine body_go (c := Tryz.f76.body.getD .skip) (n := 45) rfl rfl (by simp only [↓reduceIte, T.setList, T.set_e] <;> rfl) ?_
  simp only [Tryz.f76, Option.getD_some]
  repeat' (first
  | with_reducible refine r_seq ?_
  | with_reducible refine r_next ?_
  | with_reducible refine r_block ?_
  | with_reducible refine r_seq_exit ?_
  | with_reducible refine r_seq_ret ?_
  | with_reducible refine r_blk_n ?_
  | with_reducible refine r_blk_ret ?_
  | with_reducible refine r_blk_hit ?_
  | with_reducible refine r_blk_miss rfl ?_
  | with_reducible refine r_skip ?_
  | with_reducible refine r_exit ?_
  | with_reducible refine r_ret ?_
  | with_reducible refine r_rq_exit ?_
  | with_reducible refine r_rq_ret ?_
  | ((with_reducible apply r_regA); (focus (simp only [List.append_eq, List.cons_append, List.nil_append] <;> rfl)); (focus (first | exact Nat.le_of_ble_eq_true rfl | (simp only [List.length_cons, List.length_nil]; omega))))
  | ((with_reducible refine r_reg (List.toList_toArray) ?_ ?_); focus (first | exact Nat.le_of_ble_eq_true rfl | (simp only [List.length_cons, List.length_nil]; omega)))
  | ((with_reducible apply r_end); focus (simp only [Nat.reduceAdd, Nat.zero_add] <;> rfl))
  | ((with_reducible (first | apply r_any | apply r_cond)); focus (simp only [↓reduceIte, clsOf, newBlk, allocOp, Fr.ev, ofV, ofA, ofS, nVar, AV.cells, rowOf_mk, put_mk, upd_mk, keyOf_mk, pureOp, readOp, pFA, pFA1, pFA2, rLd, rdAB_row, oneCell_one, hget_same, pBin, binA, intOp_eql, List.length_cons, List.length_nil, List.getElem?_cons_zero, List.drop_zero, List.take_succ_cons, List.take_zero, Nat.zero_add, Nat.add_zero, Nat.reduceAdd, Nat.reduceLT, Nat.reduceLeDiff, Nat.reduceEqDiff, Nat.reduceSub, Nat.add_eq, loadA_w, loadW_s, binA, stepOp, stV_mk, stB_mk, T.get_n, T.set_n, T.set_e, Nat.reduceDiv, Nat.reduceMod, sz3, ag3, Tryz.underlying79, stepAny, wantedA_none, hk0, hk1, hk2] <;> rfl))
  | (with_reducible rw [ifQ_t])
  | (with_reducible rw [ifQ_f])
  | (with_reducible refine ifQ_intro ?_ ?_ <;> intro hb))
  subst hQ
  refine ret_back (by simp only [Tryz.results76, resultOf, resultsA, resultA, List.toList_toArray, Fr.ev, T.get_n, Nat.reduceDiv, Nat.reduceMod, Nat.reduceSub, Nat.reduceEqDiff, ↓reduceIte] <;> rfl) ⟨_, out_f ?_, ?_⟩
  · simp [vOk, k0, k1, k2]
  repeat (first | exact Same.base _ _ _ | exact Same.refl _ | refine Same.hset hw ?_ (ky_le _ _))


end Go.Proofs.YtlbjmpbgnbpcoaaGreatDoor

namespace Go.Proofs.YtlbjmpbgnbpcoaaGreatDoor
open Go Go.Ai
set_option maxRecDepth 100000

section
variable {S : FuncId → List AV → St → Out → Prop}
theorem k_valid {h : Heap} {F : Nat} {k n : Int} {t : List UInt8} (ht : t.length ≤ maxLen) : CallF.fn (KT S) 73 [.agg [.int .i64 k, .int .i64 n, .str t]] ⟨h, F⟩ = some [.val (.bool (dec (vOk k n t))) ⟨h, F⟩] := kt_fn rfl (snd_glob (valid_ok h F k n t ht))
theorem k_vvalid {h : Heap} {F : Nat} {k n : Int} {t : List UInt8} (ht : t.length ≤ maxLen) : CallF.fn (KT S) 76 [.agg [.int .i64 k, .int .i64 n, .str t]] ⟨h, F⟩ = some [.val (.bool (dec (vOk k n t))) ⟨h, F⟩] := kt_fn rfl (snd_glob (vvalid_ok h F k n t ht))
theorem codeV_t {k n : Int} {t : List UInt8} (h : vOk k n t) : codeV k n t = 0 := by unfold codeV; rw [if_pos h]
theorem codeV_f {k n : Int} {t : List UInt8} (h : ¬ vOk k n t) : codeV k n t = 20 := by unfold codeV; rw [if_neg h]
theorem by5 : bytesT Tryz.prog 5 = some 1 := by kernel_rfl
theorem zo5 : zeroOk Tryz.prog 5 1 1 = true := by kernel_rfl
theorem tA5 : tagA Tryz.prog 5 = 5 + 1 := by kernel_rfl
theorem pIx_s {h : TypeId} {t : List UInt8} {i : Nat} {c : UInt8} (hu : Tryz.prog.underlying h = some .string) (hc : t[i]? = some c) : pIx Tryz.prog h (some (.str t)) (some (.int .i64 (i : Int))) = some (.int .u8 (c.toNat : Int)) := by
  have h1 : natOf (.int .i64 (i : Int)) = some i := rfl
  simp only [pIx, h1, pIx1, hu, pIx2, hc]
theorem esc_t {c : UInt8} (h : c.toNat = 34 ∨ c.toNat = 92) : escB c = [92, c] := by unfold escB; rw [if_pos h]
theorem esc_f {c : UInt8} (h : ¬ (c.toNat = 34 ∨ c.toNat = 92)) : escB c = [c] := by unfold escB; rw [if_neg h]
set_option maxHeartbeats 4000000 in
theorem print_text (h : Heap) (F : Nat) (n : Int) (t : List UInt8) (hv : vOk 2 n t) : Snd Tryz.prog GL 43 [.agg [.int .i64 2, .int .i64 n, .str t]] ⟨h, F⟩ [.val (.tup [.str (34 :: (escL t ++ [34])), .int .i64 0]) ⟨h, F⟩] := by
  refine snd_val (by simp [Kin, Kins]) fun hw => ?_
  have mxl : maxLen = 9223372036854775807 := by decide
  have ht64 : t.length ≤ 64 := by rcases hv with h | h | h <;> simp_all
  have ht : t.length ≤ maxLen := by omega
  have nb := fun (key : Nat) (c : Int) => nBS_by (P := Tryz.prog) (key := key) (c := c) sz5 zr5
  refine sndQ_body (K := (KT S0)) kt_ok mixed noNum (m := 101) Tryz.func43 ?_
  generalize hQ : retQ _ _ _ _ _ _ = Q0
  refine body_go (c := Tryz.f43.body.getD .skip) (n := 55) rfl rfl (by simp only [↓reduceIte, T.setList, T.set_e] <;> rfl) ?_
  simp only [Tryz.f43, Option.getD_some]
  repeat' (first
  | with_reducible refine r_seq ?_
  | with_reducible refine r_next ?_
  | with_reducible refine r_block ?_
  | with_reducible refine r_seq_exit ?_
  | with_reducible refine r_seq_ret ?_
  | with_reducible refine r_blk_n ?_
  | with_reducible refine r_blk_ret ?_
  | with_reducible refine r_blk_hit ?_
  | with_reducible refine r_blk_miss rfl ?_
  | with_reducible refine r_skip ?_
  | with_reducible refine r_exit ?_
  | with_reducible refine r_ret ?_
  | with_reducible refine r_rq_exit ?_
  | with_reducible refine r_rq_ret ?_
  | ((with_reducible apply r_regA); (focus (simp only [List.append_eq, List.cons_append, List.nil_append] <;> rfl)); (focus (first | exact Nat.le_of_ble_eq_true rfl | (simp only [List.length_cons, List.length_nil]; omega))))
  | ((with_reducible refine r_reg (List.toList_toArray) ?_ ?_); focus (first | exact Nat.le_of_ble_eq_true rfl | (simp only [List.length_cons, List.length_nil]; omega)))
  | ((with_reducible apply r_drawL); (focus kernel_rfl); (focus kernel_rfl); (focus (first | exact Nat.le_of_ble_eq_true rfl | (simp only [List.length_cons, List.length_nil]; omega))))
  | ((with_reducible apply r_end); focus (simp only [Nat.reduceAdd, Nat.zero_add] <;> rfl))
  | ((with_reducible (first | apply r_move | apply r_assign)); (focus (simp only [T.get_n, Nat.reduceEqDiff, Nat.reduceDiv, Nat.reduceMod, Nat.reduceSub, ↓reduceIte] <;> rfl)); (focus (exact Nat.le_of_ble_eq_true rfl)))
  | ((with_reducible apply r_condT); (focus (simp only [Tget_set, ↓reduceIte] <;> rfl)))
  | ((with_reducible (first | apply r_any | apply r_cond)); focus (simp only [↓reduceIte, Bool.not_true, clsOf, clsCall, newBlk, allocOp, Fr.ev, evs, evParts, ofV, ofA, ofS, nVar, AV.cells, rowOf_mk, put_mk, upd_mk, keyOf_mk, ky_inj, pureOp, readOp, pFA, pFA1, pFA2, rLd, rdAB_row, oneCell_one, someAgg_s, hget_same, hget_hset_ite, pBin, binA, intOp_eql, List.length_cons, List.length_nil, List.getElem?_cons_zero, List.getElem?_cons_succ, List.drop_zero, List.drop_succ_cons, List.take_succ_cons, List.take_zero, Nat.zero_add, Nat.add_zero, Nat.reduceAdd, Nat.reduceLT, Nat.reduceLeDiff, Nat.reduceEqDiff, Nat.reduceSub, Nat.add_eq, loadA_w, loadW_a, loadW_s, pUn_not, callTo_s, heavyCall, target, List.nil_append, List.append_nil, binA, Int.reduceBEq, stepOp, stHeavy, stV_mk, stB_mk, stO_mk, T.get_n, T.set_n, T.set_e, Nat.reduceDiv, Nat.reduceMod, sz3, ag3, sz9, ag9, Tryz.underlying9, sz79, ag79, Tryz.underlying79, Tryz.underlying96, stepAny, wantedA_none, rCall, rLen, rLen1_str, lenA, k_valid ht, dec_t hv, nb, tA5] <;> rfl))
  | (with_reducible rw [ifQ_t])
  | (with_reducible rw [ifQ_f])
  | (with_reducible refine ifQ_intro ?_ ?_ <;> intro hb))
  refine r_loop (I := fun nn fr s1 => ∃ lc tt h1 i out co, fr = ⟨F, lc, 55, tt, [], .no⟩ ∧ s1 = ⟨h1, F + 1⟩ ∧ i ≤ t.length ∧ nn = t.length - i ∧ 2 ≤ lc ∧ lc + nn * 1000 ≤ 100000000000000000000000000 ∧ 0 < co ∧ co < lc ∧ Low F h h1 ∧ tt.get 1 = some (.ptr (ky F 0) 0) ∧ tt.get 4 = some out ∧ tt.get 24 = some (.int .i64 (t.length : Int)) ∧ tt.get 25 = some (.int .i64 (i : Int)) ∧ hget h1 (ky F 0) = some (mkRow [.int .i64 2, .int .i64 n, .str t] 0) ∧ OutB Tryz.prog h1 5 F co out (34 :: escL (t.take i))) (n := t.length) ?_ ?_ ?_
  · omega
  · refine ⟨_, _, _, 0, _, _, rfl, rfl, Nat.zero_le _, (Nat.sub_zero _).symm, by omega, by omega, ?_, ?_, ?_, (by first | (simp only [T.get_n, Nat.reduceEqDiff, Nat.reduceDiv, Nat.reduceMod, ↓reduceIte] <;> rfl) | rfl), (by first | (simp only [T.get_n, Nat.reduceEqDiff, Nat.reduceDiv, Nat.reduceMod, Nat.reduceSub, ↓reduceIte] <;> rfl) | rfl), (by first | (simp only [T.get_n, Nat.reduceEqDiff, Nat.reduceDiv, Nat.reduceMod, Nat.reduceSub, ↓reduceIte] <;> rfl) | rfl), (by first | (simp only [T.get_n, Nat.reduceEqDiff, Nat.reduceDiv, Nat.reduceMod, Nat.reduceSub, ↓reduceIte] <;> rfl) | rfl), ?_, ⟨some 1, by simp, rfl, .inr ⟨rfl, rfl⟩, ?_⟩⟩
    rotate_right
    · rw [hget_hset, if_pos rfl, tA5]; rfl
    · decide
    · decide
    · exact ((Low.refl F h).set (Nat.le_refl F)).set (Nat.le_refl F)
    · rw [hget_hset, if_neg (by rw [ky_inj]; omega), hget_hset, if_pos rfl]
  rintro nn fr s1 ⟨lc, tt, h1, i, out, co, rfl, rfl, hi, rfl, hl0, hlc, hco0, hco, hlow, u1, u4, u24, u25, c0, hO⟩
  have hel := escL_len (t.take i)
  rw [List.length_take] at hel
  by_cases hil : i < t.length
  · obtain ⟨c, hc⟩ : ∃ c, t[i]? = some c := ⟨t[i], by simp⟩
    have ix := pIx_s (h := 9) Tryz.underlying9 hc
    have hst := escL_take hc
    by_cases hq : c.toNat = 34 ∨ c.toNat = 92
    · have e1 : (((c.toNat : Nat) : Int) == 34) = true ∨ ((((c.toNat : Nat) : Int) == 34) = false ∧ (((c.toNat : Nat) : Int) == 92) = true) := by
        rcases hq with h | h
        · exact .inl (beq_iff_eq.2 (by omega))
        · exact .inr ⟨beq_eq_false_iff_ne.2 (by omega), beq_iff_eq.2 (by omega)⟩
      obtain ⟨h3, a1, a1g, a1k⟩ := app_out (P := Tryz.prog) (t := 96) (t2 := 96) (key := ky F (lc + 15 + 2)) (F := F) (c := co) (f := F + 1) (h := (hset h1 (ky F (lc + 15 + 1)) (mkRowT (5 + 1) [.int .u8 92] 1))) (b := .slice (ky F (lc + 15 + 1)) 0 0 1 (some 1)) (x := [(92 : UInt8)]) (out := out) (l := 34 :: escL (t.take i)) Tryz.underlying96 Tryz.underlying96 sz5 by5 zo5 (src_row (x := [(92 : UInt8)]) (tg := 5 + 1) (by rw [hget_hset, if_pos rfl]; rfl)) (by simp) (by simp only [List.length_cons, List.length_nil]; omega) (by omega) (hO.move (by rw [hget_hset, if_neg (by rw [ky_inj]; omega)]))
      obtain ⟨h5, a2, a2g, a2k⟩ := app_out (P := Tryz.prog) (t := 96) (t2 := 96) (key := ky F (lc + 19 + 6)) (F := F) (c := lc + 15 + 2) (f := F + 1) (h := (hset h3 (ky F (lc + 19 + 5)) (mkRowT (5 + 1) [.int .u8 (c.toNat : Int)] 1))) (b := .slice (ky F (lc + 19 + 5)) 0 0 1 (some 1)) (x := [c]) (out := (.slice (ky F (lc + 15 + 2)) 0 0 ((34 :: escL (t.take i)) ++ [92]).length none)) (l := (34 :: escL (t.take i)) ++ [92]) Tryz.underlying96 Tryz.underlying96 sz5 by5 zo5 (src_row (x := [c]) (tg := 5 + 1) (by rw [hget_hset, if_pos rfl]; rfl)) (by simp) (by simp only [List.length_cons, List.length_append, List.length_nil]; omega) (by omega) (OutB.move ⟨none, by simp, rfl, .inl rfl, a1g⟩ (by rw [hget_hset, if_neg (by rw [ky_inj]; omega)]))
      have c02 : hget h3 (ky F 0) = some (mkRow [.int .i64 2, .int .i64 n, .str t] 0) := by
        rw [a1k _ (by rw [Ne, ky_inj]; omega) (by rw [Ne, ky_inj]; omega), hget_hset, if_neg (by rw [ky_inj]; omega)]; exact c0
      have fin : ∃ lc' : Nat, True := ⟨0, trivial⟩
      rcases e1 with e1 | ⟨e1, e2⟩
      · repeat' (first
        | with_reducible refine r_seq ?_
        | with_reducible refine r_next ?_
        | with_reducible refine r_block ?_
        | with_reducible refine r_seq_exit ?_
        | with_reducible refine r_seq_ret ?_
        | with_reducible refine r_blk_n ?_
        | with_reducible refine r_blk_ret ?_
        | with_reducible refine r_blk_hit ?_
        | with_reducible refine r_blk_miss rfl ?_
        | with_reducible refine r_skip ?_
        | with_reducible refine r_exit ?_
        | with_reducible refine r_ret ?_
        | with_reducible refine r_rq_exit ?_
        | with_reducible refine r_rq_ret ?_
        | ((with_reducible apply r_regA); (focus (simp only [List.append_eq, List.cons_append, List.nil_append] <;> rfl)); (focus (first | exact Nat.le_of_ble_eq_true rfl | (simp only [List.length_cons, List.length_nil]; omega))))
        | ((with_reducible refine r_reg (List.toList_toArray) ?_ ?_); focus (first | exact Nat.le_of_ble_eq_true rfl | (simp only [List.length_cons, List.length_nil]; omega)))
        | ((with_reducible apply r_drawL); (focus kernel_rfl); (focus kernel_rfl); (focus (first | exact Nat.le_of_ble_eq_true rfl | (simp only [List.length_cons, List.length_nil]; omega))))
        | ((with_reducible apply r_end); focus (simp only [Nat.add_assoc, Nat.reduceAdd, Nat.zero_add] <;> rfl))
        | ((with_reducible (first | apply r_move | apply r_assign)); (focus (simp only [Tget_set, Nat.reduceEqDiff, ↓reduceIte, u4, u25] <;> rfl)); (focus (exact Nat.le_of_ble_eq_true rfl)))
        | ((with_reducible apply r_condT); (focus (simp only [Tget_set, ↓reduceIte] <;> rfl)))
        | ((with_reducible (first | apply r_any | apply r_cond)); focus (simp only [↓reduceIte, wantedA_eq, gBool_f, Bool.not_true, clsOf, clsCall, newBlk, allocOp, Fr.ev, evParts, ofV, ofA, ofS, put_mk, upd_mk, keyOf_mk, pureOp, readOp, pFA, pFA1, pFA2, rLd, rdAB_row, oneCell_one, pBin, binA, intOp_eql, intOp_lss, pPick, List.length_cons, List.length_nil, List.getElem?_cons_zero, List.getElem?_cons_succ, List.drop_zero, List.drop_succ_cons, List.take_succ_cons, List.take_zero, Nat.zero_add, Nat.reduceAdd, Nat.reduceLT, Nat.reduceLeDiff, Nat.reduceEqDiff, Nat.add_eq, loadA_w, loadW_s, heavyCall, binA, stepOp, stHeavy, stV_mk, stB_mk, stO_mk, sz9, ag9, Tryz.underlying79, Tryz.underlying96, stepAny, wantedA_none, Tget_set, u1, u24, u25, c0, lt_t hil, ix, nb, tA5, aBuiltin, aApp, aApp2, outOf, intOp_add (inR_succ hil ht), e1, c02, a1, a2] <;> rfl))
        | (with_reducible rw [ifQ_t])
        | (with_reducible rw [ifQ_f])
        | (with_reducible refine ifQ_intro ?_ ?_ <;> intro hb))
        have hnew : (34 :: escL (t.take i)) ++ [92] ++ [c] = 34 :: escL (t.take (i + 1)) := by rw [hst, esc_t hq]; simp
        rw [hnew] at a2g ⊢
        refine r_rq_n (k := t.length - (i + 1)) (by omega) ⟨_, _, _, i + 1, _, lc + 19 + 6, rfl, rfl, by omega, rfl, by omega, by omega, by omega, by omega, ?_, (by first | (simp only [Tget_set, Nat.reduceEqDiff, ↓reduceIte, u1] <;> rfl) | rfl), (by first | (simp only [Tget_set, Nat.reduceEqDiff, ↓reduceIte] <;> rfl) | rfl), (by first | (simp only [Tget_set, Nat.reduceEqDiff, ↓reduceIte, u24] <;> rfl) | rfl), (by first | (simp only [Tget_set, ↓reduceIte] <;> rfl) | rfl), ?_, ⟨none, by simp, rfl, .inl rfl, a2g⟩⟩
        · intro j hj
          rw [a2k j (by unfold ky at *; omega) (by unfold ky at *; omega), hget_hset, if_neg (by unfold ky at *; omega), a1k j (by unfold ky at *; omega) (by unfold ky at *; omega), hget_hset, if_neg (by unfold ky at *; omega)]
          exact hlow j hj
        · rw [a2k _ (by rw [Ne, ky_inj]; omega) (by rw [Ne, ky_inj]; omega), hget_hset, if_neg (by rw [ky_inj]; omega)]; exact c02
      · repeat' (first
        | with_reducible refine r_seq ?_
        | with_reducible refine r_next ?_
        | with_reducible refine r_block ?_
        | with_reducible refine r_seq_exit ?_
        | with_reducible refine r_seq_ret ?_
        | with_reducible refine r_blk_n ?_
        | with_reducible refine r_blk_ret ?_
        | with_reducible refine r_blk_hit ?_
        | with_reducible refine r_blk_miss rfl ?_
        | with_reducible refine r_skip ?_
        | with_reducible refine r_exit ?_
        | with_reducible refine r_ret ?_
        | with_reducible refine r_rq_exit ?_
        | with_reducible refine r_rq_ret ?_
        | ((with_reducible apply r_regA); (focus (simp only [List.append_eq, List.cons_append, List.nil_append] <;> rfl)); (focus (first | exact Nat.le_of_ble_eq_true rfl | (simp only [List.length_cons, List.length_nil]; omega))))
        | ((with_reducible refine r_reg (List.toList_toArray) ?_ ?_); focus (first | exact Nat.le_of_ble_eq_true rfl | (simp only [List.length_cons, List.length_nil]; omega)))
        | ((with_reducible apply r_drawL); (focus kernel_rfl); (focus kernel_rfl); (focus (first | exact Nat.le_of_ble_eq_true rfl | (simp only [List.length_cons, List.length_nil]; omega))))
        | ((with_reducible apply r_end); focus (simp only [Nat.add_assoc, Nat.reduceAdd, Nat.zero_add] <;> rfl))
        | ((with_reducible (first | apply r_move | apply r_assign)); (focus (simp only [Tget_set, Nat.reduceEqDiff, ↓reduceIte, u4, u25] <;> rfl)); (focus (exact Nat.le_of_ble_eq_true rfl)))
        | ((with_reducible apply r_condT); (focus (simp only [Tget_set, ↓reduceIte] <;> rfl)))
        | ((with_reducible (first | apply r_any | apply r_cond)); focus (simp only [↓reduceIte, wantedA_eq, gBool_f, Bool.not_false, clsOf, clsCall, newBlk, allocOp, Fr.ev, evParts, ofV, ofA, ofS, put_mk, upd_mk, keyOf_mk, pureOp, readOp, pFA, pFA1, pFA2, rLd, rdAB_row, oneCell_one, pBin, binA, intOp_eql, intOp_lss, pPick, List.length_cons, List.length_nil, List.getElem?_cons_zero, List.getElem?_cons_succ, List.drop_zero, List.drop_succ_cons, List.take_succ_cons, List.take_zero, Nat.zero_add, Nat.reduceAdd, Nat.reduceLT, Nat.reduceLeDiff, Nat.reduceEqDiff, Nat.add_eq, loadA_w, loadW_s, heavyCall, binA, stepOp, stHeavy, stV_mk, stB_mk, stO_mk, sz9, ag9, Tryz.underlying79, Tryz.underlying96, stepAny, wantedA_none, Tget_set, u1, u24, u25, c0, lt_t hil, ix, nb, tA5, aBuiltin, aApp, aApp2, outOf, intOp_add (inR_succ hil ht), e1, e2, c02, a1, a2] <;> rfl))
        | (with_reducible rw [ifQ_t])
        | (with_reducible rw [ifQ_f])
        | (with_reducible refine ifQ_intro ?_ ?_ <;> intro hb))
        have hnew : (34 :: escL (t.take i)) ++ [92] ++ [c] = 34 :: escL (t.take (i + 1)) := by rw [hst, esc_t hq]; simp
        rw [hnew] at a2g ⊢
        refine r_rq_n (k := t.length - (i + 1)) (by omega) ⟨_, _, _, i + 1, _, lc + 19 + 6, rfl, rfl, by omega, rfl, by omega, by omega, by omega, by omega, ?_, (by first | (simp only [Tget_set, Nat.reduceEqDiff, ↓reduceIte, u1] <;> rfl) | rfl), (by first | (simp only [Tget_set, Nat.reduceEqDiff, ↓reduceIte] <;> rfl) | rfl), (by first | (simp only [Tget_set, Nat.reduceEqDiff, ↓reduceIte, u24] <;> rfl) | rfl), (by first | (simp only [Tget_set, ↓reduceIte] <;> rfl) | rfl), ?_, ⟨none, by simp, rfl, .inl rfl, a2g⟩⟩
        · intro j hj
          rw [a2k j (by unfold ky at *; omega) (by unfold ky at *; omega), hget_hset, if_neg (by unfold ky at *; omega), a1k j (by unfold ky at *; omega) (by unfold ky at *; omega), hget_hset, if_neg (by unfold ky at *; omega)]
          exact hlow j hj
        · rw [a2k _ (by rw [Ne, ky_inj]; omega) (by rw [Ne, ky_inj]; omega), hget_hset, if_neg (by rw [ky_inj]; omega)]; exact c02
    · have e1 : (((c.toNat : Nat) : Int) == 34) = false := beq_eq_false_iff_ne.2 (by omega)
      have e2 : (((c.toNat : Nat) : Int) == 92) = false := beq_eq_false_iff_ne.2 (by omega)
      obtain ⟨h3, a3, a3g, a3k⟩ := app_out (P := Tryz.prog) (t := 96) (t2 := 96) (key := ky F (lc + 15 + 6)) (F := F) (c := co) (f := F + 1) (h := (hset h1 (ky F (lc + 15 + 5)) (mkRowT (5 + 1) [.int .u8 (c.toNat : Int)] 1))) (b := .slice (ky F (lc + 15 + 5)) 0 0 1 (some 1)) (x := [c]) (out := out) (l := 34 :: escL (t.take i)) Tryz.underlying96 Tryz.underlying96 sz5 by5 zo5 (src_row (x := [c]) (tg := 5 + 1) (by rw [hget_hset, if_pos rfl]; rfl)) (by simp) (by simp only [List.length_cons, List.length_nil]; omega) (by omega) (hO.move (by rw [hget_hset, if_neg (by rw [ky_inj]; omega)]))
      repeat' (first
      | with_reducible refine r_seq ?_
      | with_reducible refine r_next ?_
      | with_reducible refine r_block ?_
      | with_reducible refine r_seq_exit ?_
      | with_reducible refine r_seq_ret ?_
      | with_reducible refine r_blk_n ?_
      | with_reducible refine r_blk_ret ?_
      | with_reducible refine r_blk_hit ?_
      | with_reducible refine r_blk_miss rfl ?_
      | with_reducible refine r_skip ?_
      | with_reducible refine r_exit ?_
      | with_reducible refine r_ret ?_
      | with_reducible refine r_rq_exit ?_
      | with_reducible refine r_rq_ret ?_
      | ((with_reducible apply r_regA); (focus (simp only [List.append_eq, List.cons_append, List.nil_append] <;> rfl)); (focus (first | exact Nat.le_of_ble_eq_true rfl | (simp only [List.length_cons, List.length_nil]; omega))))
      | ((with_reducible refine r_reg (List.toList_toArray) ?_ ?_); focus (first | exact Nat.le_of_ble_eq_true rfl | (simp only [List.length_cons, List.length_nil]; omega)))
      | ((with_reducible apply r_drawL); (focus kernel_rfl); (focus kernel_rfl); (focus (first | exact Nat.le_of_ble_eq_true rfl | (simp only [List.length_cons, List.length_nil]; omega))))
      | ((with_reducible apply r_end); focus (simp only [Nat.add_assoc, Nat.reduceAdd, Nat.zero_add] <;> rfl))
      | ((with_reducible (first | apply r_move | apply r_assign)); (focus (simp only [Tget_set, Nat.reduceEqDiff, ↓reduceIte, u4, u25] <;> rfl)); (focus (exact Nat.le_of_ble_eq_true rfl)))
      | ((with_reducible apply r_condT); (focus (simp only [Tget_set, ↓reduceIte] <;> rfl)))
      | ((with_reducible (first | apply r_any | apply r_cond)); focus (simp only [↓reduceIte, wantedA_eq, gBool_f, Bool.not_false, clsOf, clsCall, newBlk, allocOp, Fr.ev, evParts, ofV, ofA, ofS, put_mk, upd_mk, keyOf_mk, pureOp, readOp, pFA, pFA1, pFA2, rLd, rdAB_row, oneCell_one, pBin, binA, intOp_eql, intOp_lss, pPick, List.length_cons, List.length_nil, List.getElem?_cons_zero, List.getElem?_cons_succ, List.drop_zero, List.drop_succ_cons, List.take_succ_cons, List.take_zero, Nat.zero_add, Nat.reduceAdd, Nat.reduceLT, Nat.reduceLeDiff, Nat.reduceEqDiff, Nat.add_eq, loadA_w, loadW_s, heavyCall, binA, stepOp, stHeavy, stV_mk, stB_mk, stO_mk, sz9, ag9, Tryz.underlying79, Tryz.underlying96, stepAny, wantedA_none, Tget_set, u1, u24, u25, c0, lt_t hil, ix, nb, tA5, aBuiltin, aApp, aApp2, outOf, intOp_add (inR_succ hil ht), e1, e2, a3] <;> rfl))
      | (with_reducible rw [ifQ_t])
      | (with_reducible rw [ifQ_f])
      | (with_reducible refine ifQ_intro ?_ ?_ <;> intro hb))
      have hnew : (34 :: escL (t.take i)) ++ [c] = 34 :: escL (t.take (i + 1)) := by rw [hst, esc_f hq]; rfl
      rw [hnew] at a3g ⊢
      refine r_rq_n (k := t.length - (i + 1)) (by omega) ⟨_, _, _, i + 1, _, lc + 15 + 6, rfl, rfl, by omega, rfl, by omega, by omega, by omega, by omega, ?_, (by first | (simp only [Tget_set, Nat.reduceEqDiff, ↓reduceIte, u1] <;> rfl) | rfl), (by first | (simp only [Tget_set, Nat.reduceEqDiff, ↓reduceIte] <;> rfl) | rfl), (by first | (simp only [Tget_set, Nat.reduceEqDiff, ↓reduceIte, u24] <;> rfl) | rfl), (by first | (simp only [Tget_set, ↓reduceIte] <;> rfl) | rfl), ?_, ⟨none, by simp, rfl, .inl rfl, a3g⟩⟩
      · intro j hj
        have hkF := ky_mono (Nat.le_refl F)
        rw [a3k j (by unfold ky at *; omega) (by unfold ky at *; omega), hget_hset, if_neg (by unfold ky at *; omega)]
        exact hlow j hj
      · rw [a3k _ (by rw [Ne, ky_inj]; omega) (by rw [Ne, ky_inj]; omega), hget_hset, if_neg (by rw [ky_inj]; omega)]; exact c0
  · have hend : i = t.length := by omega
    have htk : t.take i = t := by rw [hend]; exact List.take_length
    rw [htk] at hO hel
    obtain ⟨h4, a4, a4g, a4k⟩ := app_out (P := Tryz.prog) (t := 96) (t2 := 96) (key := ky F (lc + 1 + 2)) (F := F) (c := co) (f := F + 1) (h := (hset h1 (ky F (lc + 1 + 1)) (mkRowT (5 + 1) [.int .u8 34] 1))) (b := .slice (ky F (lc + 1 + 1)) 0 0 1 (some 1)) (x := [(34 : UInt8)]) (out := out) (l := 34 :: escL t) Tryz.underlying96 Tryz.underlying96 sz5 by5 zo5 (src_row (x := [(34 : UInt8)]) (tg := 5 + 1) (by rw [hget_hset, if_pos rfl]; rfl)) (by simp) (by simp only [List.length_cons, List.length_nil]; omega) (by omega) (hO.move (by rw [hget_hset, if_neg (by rw [ky_inj]; omega)]))
    have cv := rCv_by (P := Tryz.prog) (h := h4) (src := 96) (dst := 9) (cap := none) Tryz.underlying96 Tryz.underlying5 Tryz.underlying9 a4g
    repeat' (first
    | with_reducible refine r_seq ?_
    | with_reducible refine r_next ?_
    | with_reducible refine r_block ?_
    | with_reducible refine r_seq_exit ?_
    | with_reducible refine r_seq_ret ?_
    | with_reducible refine r_blk_n ?_
    | with_reducible refine r_blk_ret ?_
    | with_reducible refine r_blk_hit ?_
    | with_reducible refine r_blk_miss rfl ?_
    | with_reducible refine r_skip ?_
    | with_reducible refine r_exit ?_
    | with_reducible refine r_ret ?_
    | with_reducible refine r_rq_exit ?_
    | with_reducible refine r_rq_ret ?_
    | ((with_reducible apply r_regA); (focus (simp only [List.append_eq, List.cons_append, List.nil_append] <;> rfl)); (focus (first | exact Nat.le_of_ble_eq_true rfl | (simp only [List.length_cons, List.length_nil]; omega))))
    | ((with_reducible refine r_reg (List.toList_toArray) ?_ ?_); focus (first | exact Nat.le_of_ble_eq_true rfl | (simp only [List.length_cons, List.length_nil]; omega)))
    | ((with_reducible apply r_drawL); (focus kernel_rfl); (focus kernel_rfl); (focus (first | exact Nat.le_of_ble_eq_true rfl | (simp only [List.length_cons, List.length_nil]; omega))))
    | ((with_reducible apply r_end); focus (simp only [Nat.add_assoc, Nat.reduceAdd, Nat.zero_add] <;> rfl))
    | ((with_reducible (first | apply r_move | apply r_assign)); (focus (simp only [Tget_set, Nat.reduceEqDiff, ↓reduceIte, u4] <;> rfl)); (focus (exact Nat.le_of_ble_eq_true rfl)))
    | ((with_reducible apply r_condT); (focus (simp only [Tget_set, ↓reduceIte] <;> rfl)))
    | ((with_reducible (first | apply r_any | apply r_cond)); focus (simp only [↓reduceIte, clsOf, clsCall, newBlk, allocOp, Fr.ev, evParts, ofV, ofA, ofS, put_mk, upd_mk, keyOf_mk, pureOp, readOp, pBin, binA, intOp_lss, Nat.zero_add, Nat.reduceAdd, Nat.reduceLT, Nat.reduceEqDiff, heavyCall, binA, stepOp, stHeavy, stV_mk, stB_mk, stO_mk, Tryz.underlying96, stepAny, wantedA_none, Tget_set, u24, u25, lt_f hil, nb, tA5, aBuiltin, aApp, aApp2, outOf, a4, cv] <;> rfl))
    | (with_reducible rw [ifQ_t])
    | (with_reducible rw [ifQ_f])
    | (with_reducible refine ifQ_intro ?_ ?_ <;> intro hb))
    subst hQ
    refine ret_back (by simp only [Tryz.results43, resultOf, resultsA, resultA, List.toList_toArray, Fr.ev, Tget_set, Nat.reduceEqDiff, ↓reduceIte] <;> rfl) ?_
    refine ⟨_, rfl, ?_⟩
    refine Low.same hw (h' := h4) fun j hj => ?_
    rw [a4k j (by unfold ky at *; omega) (by unfold ky at *; omega), hget_hset, if_neg (by unfold ky at *; omega)]
    exact hlow j hj

theorem vk_cases {k n : Int} {t : List UInt8} (hv : vOk k n t) (h0 : ¬ k = 0) (h1 : ¬ k = 1) : k = 2 := by rcases hv with h | h | h <;> omega
set_option maxHeartbeats 4000000 in
theorem pprint (h : Heap) (F : Nat) (k n : Int) (t : List UInt8) (hn : in64 n) (ht : t.length ≤ maxLen) : Snd Tryz.prog GL 43 [.agg [.int .i64 k, .int .i64 n, .str t]] ⟨h, F⟩ [.val (.tup [.str (printV k n t), .int .i64 (codeV k n t)]) ⟨h, F⟩] := by
  by_cases hv : vOk k n t
  · by_cases k1 : k = 1
    · subst k1
      refine snd_val (by simp [Kin, Kins]) fun hw => ?_
      refine sndQ_body (K := (KT S0)) kt_ok mixed noNum (m := 0) Tryz.func43 ?_
      generalize hQ : retQ _ _ _ _ _ _ = Q0
      refine body_go (c := Tryz.f43.body.getD .skip) (n := 55) rfl rfl (by simp only [↓reduceIte, T.setList, T.set_e] <;> rfl) ?_
      simp only [Tryz.f43, Option.getD_some]
      repeat' (first
      | with_reducible refine r_seq ?_
      | with_reducible refine r_next ?_
      | with_reducible refine r_block ?_
      | with_reducible refine r_seq_exit ?_
      | with_reducible refine r_seq_ret ?_
      | with_reducible refine r_blk_n ?_
      | with_reducible refine r_blk_ret ?_
      | with_reducible refine r_blk_hit ?_
      | with_reducible refine r_blk_miss rfl ?_
      | with_reducible refine r_skip ?_
      | with_reducible refine r_exit ?_
      | with_reducible refine r_ret ?_
      | with_reducible refine r_rq_exit ?_
      | with_reducible refine r_rq_ret ?_
      | ((with_reducible apply r_regA); (focus (simp only [List.append_eq, List.cons_append, List.nil_append] <;> rfl)); (focus (first | exact Nat.le_of_ble_eq_true rfl | (simp only [List.length_cons, List.length_nil]; omega))))
      | ((with_reducible refine r_reg (List.toList_toArray) ?_ ?_); focus (first | exact Nat.le_of_ble_eq_true rfl | (simp only [List.length_cons, List.length_nil]; omega)))
      | ((with_reducible apply r_drawL); (focus kernel_rfl); (focus kernel_rfl); (focus (first | exact Nat.le_of_ble_eq_true rfl | (simp only [List.length_cons, List.length_nil]; omega))))
      | ((with_reducible apply r_end); focus (simp only [Nat.reduceAdd, Nat.zero_add] <;> rfl))
      | ((with_reducible (first | apply r_move | apply r_assign)); (focus (simp only [T.get_n, Nat.reduceEqDiff, Nat.reduceDiv, Nat.reduceMod, Nat.reduceSub, ↓reduceIte] <;> rfl)); (focus (exact Nat.le_of_ble_eq_true rfl)))
      | ((with_reducible apply r_condT); (focus (simp only [Tget_set, ↓reduceIte] <;> rfl)))
      | ((with_reducible (first | apply r_any | apply r_cond)); focus (simp only [↓reduceIte, Bool.not_true, clsOf, clsCall, newBlk, allocOp, Fr.ev, evs, ofV, ofA, ofS, nVar, AV.cells, rowOf_mk, put_mk, upd_mk, keyOf_mk, pureOp, readOp, pFA, pFA1, pFA2, rLd, rdAB_row, oneCell_one, someAgg_s, hget_same, pBin, binA, intOp_eql, List.length_cons, List.length_nil, List.getElem?_cons_zero, List.getElem?_cons_succ, List.drop_zero, List.drop_succ_cons, List.take_succ_cons, List.take_zero, Nat.zero_add, Nat.add_zero, Nat.reduceAdd, Nat.reduceLT, Nat.reduceLeDiff, Nat.reduceEqDiff, Nat.reduceSub, Nat.add_eq, loadA_w, loadW_a, loadW_s, pUn_not, callTo_s, heavyCall, target, List.nil_append, List.append_nil, binA, beq_self_eq_true, stepOp, stHeavy, stV_mk, stB_mk, stO_mk, T.get_n, T.set_n, T.set_e, Nat.reduceDiv, Nat.reduceMod, sz2, ag2, sz3, ag3, sz79, ag79, Tryz.underlying79, stepAny, wantedA_none, k_valid ht, dec_t hv, k_pdigits hn] <;> rfl))
      | (with_reducible rw [ifQ_t])
      | (with_reducible rw [ifQ_f])
      | (with_reducible refine ifQ_intro ?_ ?_ <;> intro hb))
      subst hQ
      refine ret_back (by simp only [Tryz.results43, resultOf, resultsA, resultA, List.toList_toArray, Fr.ev, T.get_n, Nat.reduceDiv, Nat.reduceMod, Nat.reduceSub, Nat.reduceEqDiff, ↓reduceIte] <;> rfl) ?_
      exact ⟨_, by rw [printV_int hv rfl, codeV_t hv], by repeat (first | exact Same.base _ _ _ | refine Same.hset hw ?_ (ky_le _ _))⟩
    by_cases k0 : k = 0
    · subst k0
      refine snd_val (by simp [Kin, Kins]) fun hw => ?_
      refine sndQ_body (K := (KT S0)) kt_ok mixed noNum (m := 0) Tryz.func43 ?_
      generalize hQ : retQ _ _ _ _ _ _ = Q0
      refine body_go (c := Tryz.f43.body.getD .skip) (n := 55) rfl rfl (by simp only [↓reduceIte, T.setList, T.set_e] <;> rfl) ?_
      simp only [Tryz.f43, Option.getD_some]
      repeat' (first
      | with_reducible refine r_seq ?_
      | with_reducible refine r_next ?_
      | with_reducible refine r_block ?_
      | with_reducible refine r_seq_exit ?_
      | with_reducible refine r_seq_ret ?_
      | with_reducible refine r_blk_n ?_
      | with_reducible refine r_blk_ret ?_
      | with_reducible refine r_blk_hit ?_
      | with_reducible refine r_blk_miss rfl ?_
      | with_reducible refine r_skip ?_
      | with_reducible refine r_exit ?_
      | with_reducible refine r_ret ?_
      | with_reducible refine r_rq_exit ?_
      | with_reducible refine r_rq_ret ?_
      | ((with_reducible apply r_regA); (focus (simp only [List.append_eq, List.cons_append, List.nil_append] <;> rfl)); (focus (first | exact Nat.le_of_ble_eq_true rfl | (simp only [List.length_cons, List.length_nil]; omega))))
      | ((with_reducible refine r_reg (List.toList_toArray) ?_ ?_); focus (first | exact Nat.le_of_ble_eq_true rfl | (simp only [List.length_cons, List.length_nil]; omega)))
      | ((with_reducible apply r_drawL); (focus kernel_rfl); (focus kernel_rfl); (focus (first | exact Nat.le_of_ble_eq_true rfl | (simp only [List.length_cons, List.length_nil]; omega))))
      | ((with_reducible apply r_end); focus (simp only [Nat.reduceAdd, Nat.zero_add] <;> rfl))
      | ((with_reducible (first | apply r_move | apply r_assign)); (focus (simp only [T.get_n, Nat.reduceEqDiff, Nat.reduceDiv, Nat.reduceMod, Nat.reduceSub, ↓reduceIte] <;> rfl)); (focus (exact Nat.le_of_ble_eq_true rfl)))
      | ((with_reducible apply r_condT); (focus (simp only [Tget_set, ↓reduceIte] <;> rfl)))
      | ((with_reducible (first | apply r_any | apply r_cond)); focus (simp only [↓reduceIte, Bool.not_true, clsOf, clsCall, newBlk, allocOp, Fr.ev, evs, ofV, ofA, ofS, nVar, AV.cells, rowOf_mk, put_mk, upd_mk, keyOf_mk, pureOp, readOp, pFA, pFA1, pFA2, rLd, rdAB_row, oneCell_one, someAgg_s, hget_same, pBin, binA, intOp_eql, List.length_cons, List.length_nil, List.getElem?_cons_zero, List.drop_zero, List.take_succ_cons, List.take_zero, Nat.zero_add, Nat.add_zero, Nat.reduceAdd, Nat.reduceLT, Nat.reduceLeDiff, Nat.reduceEqDiff, Nat.reduceSub, Nat.add_eq, loadA_w, loadW_a, loadW_s, pUn_not, callTo_s, heavyCall, target, List.nil_append, List.append_nil, binA, beq_self_eq_true, Int.reduceBEq, stepOp, stHeavy, stV_mk, stB_mk, stO_mk, T.get_n, T.set_n, T.set_e, Nat.reduceDiv, Nat.reduceMod, sz3, ag3, sz79, ag79, Tryz.underlying79, stepAny, wantedA_none, k_valid ht, dec_t hv] <;> rfl))
      | (with_reducible rw [ifQ_t])
      | (with_reducible rw [ifQ_f])
      | (with_reducible refine ifQ_intro ?_ ?_ <;> intro hb))
      subst hQ
      refine ret_back (by simp only [Tryz.results43, resultOf, resultsA, resultA, List.toList_toArray, Fr.ev, T.get_n, Nat.reduceDiv, Nat.reduceMod, Nat.reduceSub, Nat.reduceEqDiff, ↓reduceIte] <;> rfl) ?_
      exact ⟨_, by rw [printV_none hv rfl, codeV_t hv]; rfl, by repeat (first | exact Same.base _ _ _ | refine Same.hset hw ?_ (ky_le _ _))⟩
    · obtain rfl := vk_cases hv k0 k1
      rw [printV_text hv k0 k1, codeV_t hv]
      exact print_text h F n t hv
  · refine snd_val (by simp [Kin, Kins]) fun hw => ?_
    refine sndQ_body (K := (KT S0)) kt_ok mixed noNum (m := 0) Tryz.func43 ?_
    generalize hQ : retQ _ _ _ _ _ _ = Q0
    refine body_go (c := Tryz.f43.body.getD .skip) (n := 55) rfl rfl (by simp only [↓reduceIte, T.setList, T.set_e] <;> rfl) ?_
    simp only [Tryz.f43, Option.getD_some]
    repeat' (first
    | with_reducible refine r_seq ?_
    | with_reducible refine r_next ?_
    | with_reducible refine r_block ?_
    | with_reducible refine r_seq_exit ?_
    | with_reducible refine r_seq_ret ?_
    | with_reducible refine r_blk_n ?_
    | with_reducible refine r_blk_ret ?_
    | with_reducible refine r_blk_hit ?_
    | with_reducible refine r_blk_miss rfl ?_
    | with_reducible refine r_skip ?_
    | with_reducible refine r_exit ?_
    | with_reducible refine r_ret ?_
    | with_reducible refine r_rq_exit ?_
    | with_reducible refine r_rq_ret ?_
    | ((with_reducible apply r_regA); (focus (simp only [List.append_eq, List.cons_append, List.nil_append] <;> rfl)); (focus (first | exact Nat.le_of_ble_eq_true rfl | (simp only [List.length_cons, List.length_nil]; omega))))
    | ((with_reducible refine r_reg (List.toList_toArray) ?_ ?_); focus (first | exact Nat.le_of_ble_eq_true rfl | (simp only [List.length_cons, List.length_nil]; omega)))
    | ((with_reducible apply r_drawL); (focus kernel_rfl); (focus kernel_rfl); (focus (first | exact Nat.le_of_ble_eq_true rfl | (simp only [List.length_cons, List.length_nil]; omega))))
    | ((with_reducible apply r_end); focus (simp only [Nat.reduceAdd, Nat.zero_add] <;> rfl))
    | ((with_reducible (first | apply r_move | apply r_assign)); (focus (simp only [T.get_n, Nat.reduceEqDiff, Nat.reduceDiv, Nat.reduceMod, Nat.reduceSub, ↓reduceIte] <;> rfl)); (focus (exact Nat.le_of_ble_eq_true rfl)))
    | ((with_reducible apply r_condT); (focus (simp only [Tget_set, ↓reduceIte] <;> rfl)))
    | ((with_reducible (first | apply r_any | apply r_cond)); focus (simp only [↓reduceIte, Bool.not_false, clsOf, clsCall, newBlk, allocOp, Fr.ev, evs, ofV, ofA, ofS, nVar, AV.cells, rowOf_mk, put_mk, upd_mk, keyOf_mk, pureOp, readOp, rLd, rdAB_row, someAgg_s, hget_same, List.length_cons, List.length_nil, List.drop_zero, List.take_succ_cons, List.take_zero, Nat.zero_add, Nat.add_zero, Nat.reduceAdd, Nat.reduceLT, Nat.reduceLeDiff, Nat.reduceEqDiff, Nat.reduceSub, loadA_w, loadW_a, pUn_not, callTo_s, heavyCall, target, List.nil_append, List.append_nil, stepOp, stHeavy, stV_mk, stB_mk, stO_mk, T.get_n, T.set_n, T.set_e, Nat.reduceDiv, Nat.reduceMod, sz79, ag79, stepAny, wantedA_none, k_valid ht, dec_f hv] <;> rfl))
    | (with_reducible rw [ifQ_t])
    | (with_reducible rw [ifQ_f])
    | (with_reducible refine ifQ_intro ?_ ?_ <;> intro hb))
    subst hQ
    refine ret_back (by simp only [Tryz.results43, resultOf, resultsA, resultA, List.toList_toArray, Fr.ev, T.get_n, Nat.reduceDiv, Nat.reduceMod, Nat.reduceSub, Nat.reduceEqDiff, ↓reduceIte] <;> rfl) ?_
    exact ⟨_, by rw [printV_bad hv, codeV_f hv], by repeat (first | exact Same.base _ _ _ | refine Same.hset hw ?_ (ky_le _ _))⟩
theorem k_pprint {h : Heap} {F : Nat} {k n : Int} {t : List UInt8} (hn : in64 n) (ht : t.length ≤ maxLen) : CallF.fn (KT S) 43 [.agg [.int .i64 k, .int .i64 n, .str t]] ⟨h, F⟩ = some [.val (.tup [.str (printV k n t), .int .i64 (codeV k n t)]) ⟨h, F⟩] := kt_fn rfl (pprint h F k n t hn ht)
theorem slice_str {u : TypeId} {t : List UInt8} {i : Nat} {c : UInt8} (hu : Tryz.prog.underlying u = some .string) (hc : t[i]? = some c) (hm : t.length ≤ 1000000) : sliceA Tryz.prog u (.str t) (some (.int .i64 (i : Int))) (some (.int .i64 ((i : Int) + 1))) none = some (.str [c]) := by
  have hi := (List.getElem?_eq_some_iff.1 hc).1
  have e1 : natOf (.int .i64 (i : Int)) = some i := rfl
  have e2 : natOf (.int .i64 ((i : Int) + 1)) = some (i + 1) := rfl
  have b1 : Nat.ble i (i + 1) = true := Nat.ble_eq_true_of_le (by omega)
  have b2 : Nat.ble (i + 1) t.length = true := Nat.ble_eq_true_of_le (by omega)
  have b3 : Nat.ble t.length t.length = true := Nat.ble_eq_true_of_le (Nat.le_refl _)
  have hd : (t.drop i).take (Nat.sub (i + 1) i) = [c] := by
    rw [show Nat.sub (i + 1) i = 1 from by show i + 1 - i = 1; omega, List.drop_eq_getElem_cons hi]
    have : t[i] = c := by rw [List.getElem?_eq_getElem hi] at hc; exact Option.some.inj hc
    rw [this]; rfl
  simp only [sliceA, hu, sliceD, boundsA, boundA, e1, e2, b1, b2, Bool.and_self, sliceStr, hd]
set_option maxHeartbeats 4000000 in
theorem vprint_text (h : Heap) (F : Nat) (n : Int) (t : List UInt8) (hv : vOk 2 n t) : Snd Tryz.prog GL 46 [.agg [.int .i64 2, .int .i64 n, .str t]] ⟨h, F⟩ [.val (.tup [.str (34 :: (escL t ++ [34])), .int .i64 0]) ⟨h, F⟩] := by
  refine snd_val (by simp [Kin, Kins]) fun hw => ?_
  have mxl : maxLen = 9223372036854775807 := by decide
  have ht64 : t.length ≤ 64 := by rcases hv with h | h | h <;> simp_all
  have ht : t.length ≤ maxLen := by omega
  refine sndQ_body (K := (KT S0)) kt_ok mixed noNum (m := 101) Tryz.func46 ?_
  generalize hQ : retQ _ _ _ _ _ _ = Q0
  refine body_go (c := Tryz.f46.body.getD .skip) (n := 49) rfl rfl (by simp only [↓reduceIte, T.setList, T.set_e] <;> rfl) ?_
  simp only [Tryz.f46, Option.getD_some]
  repeat' (first
  | with_reducible refine r_seq ?_
  | with_reducible refine r_next ?_
  | with_reducible refine r_block ?_
  | with_reducible refine r_seq_exit ?_
  | with_reducible refine r_seq_ret ?_
  | with_reducible refine r_blk_n ?_
  | with_reducible refine r_blk_ret ?_
  | with_reducible refine r_blk_hit ?_
  | with_reducible refine r_blk_miss rfl ?_
  | with_reducible refine r_skip ?_
  | with_reducible refine r_exit ?_
  | with_reducible refine r_ret ?_
  | with_reducible refine r_rq_exit ?_
  | with_reducible refine r_rq_ret ?_
  | ((with_reducible apply r_regA); (focus (simp only [List.append_eq, List.cons_append, List.nil_append] <;> rfl)); (focus (first | exact Nat.le_of_ble_eq_true rfl | (simp only [List.length_cons, List.length_nil]; omega))))
  | ((with_reducible refine r_reg (List.toList_toArray) ?_ ?_); focus (first | exact Nat.le_of_ble_eq_true rfl | (simp only [List.length_cons, List.length_nil]; omega)))
  | ((with_reducible apply r_drawL); (focus kernel_rfl); (focus kernel_rfl); (focus (first | exact Nat.le_of_ble_eq_true rfl | (simp only [List.length_cons, List.length_nil]; omega))))
  | ((with_reducible apply r_end); focus (simp only [Nat.reduceAdd, Nat.zero_add] <;> rfl))
  | ((with_reducible (first | apply r_move | apply r_assign)); (focus (simp only [T.get_n, Nat.reduceEqDiff, Nat.reduceDiv, Nat.reduceMod, Nat.reduceSub, ↓reduceIte] <;> rfl)); (focus (exact Nat.le_of_ble_eq_true rfl)))
  | ((with_reducible apply r_condT); (focus (simp only [Tget_set, T.get_n, Nat.reduceEqDiff, Nat.reduceDiv, Nat.reduceMod, Nat.reduceSub, ↓reduceIte] <;> rfl)))
  | ((with_reducible (first | apply r_any | apply r_cond)); focus (simp only [↓reduceIte, Bool.not_true, clsOf, clsCall, newBlk, allocOp, Fr.ev, evs, ofV, ofA, ofS, nVar, AV.cells, rowOf_mk, put_mk, upd_mk, keyOf_mk, pureOp, readOp, pFA, pFA1, pFA2, rLd, rdAB_row, oneCell_one, someAgg_s, hget_same, pBin, binA, intOp_eql, List.length_cons, List.length_nil, List.getElem?_cons_zero, List.drop_zero, List.take_succ_cons, List.take_zero, Nat.zero_add, Nat.add_zero, Nat.reduceAdd, Nat.reduceLT, Nat.reduceLeDiff, Nat.reduceEqDiff, Nat.reduceSub, Nat.add_eq, loadA_w, loadW_a, loadW_s, pUn_not, callTo_s, heavyCall, target, List.nil_append, List.append_nil, binA, Int.reduceBEq, stepOp, stHeavy, stV_mk, stB_mk, stO_mk, T.get_n, T.set_n, T.set_e, Nat.reduceDiv, Nat.reduceMod, sz3, ag3, sz79, ag79, Tryz.underlying79, stepAny, wantedA_none, k_vvalid ht, dec_t hv] <;> rfl))
  | (with_reducible rw [ifQ_t])
  | (with_reducible rw [ifQ_f])
  | (with_reducible refine ifQ_intro ?_ ?_ <;> intro hb))
  refine r_loop (I := fun nn fr s1 => ∃ lc tt i, fr = ⟨F, lc, 49, tt, [], .no⟩ ∧ s1 = ⟨hset h (ky F 0) (mkRow [.int .i64 2, .int .i64 n, .str t] 0), F + 1⟩ ∧ i ≤ t.length ∧ nn = t.length - i ∧ lc + nn * 1000 ≤ 100000000000000000000000000 ∧ tt.get 1 = some (.ptr (ky F 0) 0) ∧ tt.get 4 = some (.str (34 :: escL (t.take i))) ∧ tt.get 5 = some (.int .i64 (i : Int))) (n := t.length) ?_ ?_ ?_
  · omega
  · exact ⟨_, _, 0, rfl, rfl, Nat.zero_le _, (Nat.sub_zero _).symm, by omega, (by first | (simp only [T.get_n, Nat.reduceEqDiff, Nat.reduceDiv, Nat.reduceMod, ↓reduceIte] <;> rfl) | rfl), (by first | (simp only [T.get_n, Nat.reduceEqDiff, Nat.reduceDiv, Nat.reduceMod, Nat.reduceSub, ↓reduceIte] <;> rfl) | rfl), (by first | (simp only [T.get_n, Nat.reduceEqDiff, Nat.reduceDiv, Nat.reduceMod, Nat.reduceSub, ↓reduceIte] <;> rfl) | rfl)⟩
  rintro nn fr s1 ⟨lc, tt, i, rfl, rfl, hi, rfl, hlc, u1, u4, u5⟩
  have hel := escL_len (t.take i)
  rw [List.length_take] at hel
  by_cases hil : i < t.length
  · obtain ⟨c, hc⟩ : ∃ c, t[i]? = some c := ⟨t[i], by simp⟩
    have ix := pIx_s (h := 9) Tryz.underlying9 hc
    have hst := escL_take hc
    have sl := slice_str (u := 9) Tryz.underlying9 hc (by omega)
    have s1 := strOp_add (a := 34 :: escL (t.take i)) (b := [92]) (by simp only [List.length_cons, List.length_nil]; omega)
    have s2 := strOp_add (a := (34 :: escL (t.take i)) ++ [92]) (b := [c]) (by simp only [List.length_cons, List.length_append, List.length_nil]; omega)
    have s3 := strOp_add (a := 34 :: escL (t.take i)) (b := [c]) (by simp only [List.length_cons, List.length_nil]; omega)
    by_cases hq : c.toNat = 34 ∨ c.toNat = 92
    · have e1 : (((c.toNat : Nat) : Int) == 34) = true ∨ ((((c.toNat : Nat) : Int) == 34) = false ∧ (((c.toNat : Nat) : Int) == 92) = true) := by
        rcases hq with h | h
        · exact .inl (beq_iff_eq.2 (by omega))
        · exact .inr ⟨beq_eq_false_iff_ne.2 (by omega), beq_iff_eq.2 (by omega)⟩
      have hnew : (34 :: escL (t.take i)) ++ [92] ++ [c] = 34 :: escL (t.take (i + 1)) := by rw [hst, esc_t hq]; simp
      rw [hnew] at s2
      rcases e1 with e1 | ⟨e1, e2⟩
      · repeat' (first
        | with_reducible refine r_seq ?_
        | with_reducible refine r_next ?_
        | with_reducible refine r_block ?_
        | with_reducible refine r_seq_exit ?_
        | with_reducible refine r_seq_ret ?_
        | with_reducible refine r_blk_n ?_
        | with_reducible refine r_blk_ret ?_
        | with_reducible refine r_blk_hit ?_
        | with_reducible refine r_blk_miss rfl ?_
        | with_reducible refine r_skip ?_
        | with_reducible refine r_exit ?_
        | with_reducible refine r_ret ?_
        | with_reducible refine r_rq_exit ?_
        | with_reducible refine r_rq_ret ?_
        | ((with_reducible apply r_regA); (focus (simp only [List.append_eq, List.cons_append, List.nil_append] <;> rfl)); (focus (first | exact Nat.le_of_ble_eq_true rfl | (simp only [List.length_cons, List.length_nil]; omega))))
        | ((with_reducible refine r_reg (List.toList_toArray) ?_ ?_); focus (first | exact Nat.le_of_ble_eq_true rfl | (simp only [List.length_cons, List.length_nil]; omega)))
        | ((with_reducible apply r_drawL); (focus kernel_rfl); (focus kernel_rfl); (focus (first | exact Nat.le_of_ble_eq_true rfl | (simp only [List.length_cons, List.length_nil]; omega))))
        | ((with_reducible apply r_end); focus (simp only [Nat.add_assoc, Nat.reduceAdd, Nat.zero_add] <;> rfl))
        | ((with_reducible (first | apply r_move | apply r_assign)); (focus (simp only [Tget_set, Nat.reduceEqDiff, ↓reduceIte, u4, u5] <;> rfl)); (focus (exact Nat.le_of_ble_eq_true rfl)))
        | ((with_reducible apply r_condT); (focus (simp only [Tget_set, ↓reduceIte] <;> rfl)))
        | ((with_reducible (first | apply r_any | apply r_cond)); focus (simp only [↓reduceIte, wantedA_eq, gBool_f, Bool.not_true, clsOf, clsCall, Fr.ev, ofV, ofA, ofS, put_mk, pureOp, readOp, pFA, pFA1, pFA2, rLd, rdAB_row, oneCell_one, hget_same, pBin, binA, intOp_eql, intOp_lss, pPick, List.length_cons, List.length_nil, List.getElem?_cons_zero, List.getElem?_cons_succ, List.drop_zero, List.drop_succ_cons, List.take_succ_cons, List.take_zero, Nat.zero_add, Nat.reduceAdd, Nat.reduceLT, Nat.reduceLeDiff, Nat.reduceEqDiff, Nat.add_eq, loadA_w, loadW_s, binA, stepOp, stV_mk, sz9, ag9, Tryz.underlying9, Tryz.underlying79, stepAny, wantedA_none, rCall, rLen, rLen1_str, lenA, Tget_set, u1, lt_t hil, ix, e1, rSl, pSlice, evO, sl, s1, s2, intOp_add (inR_succ hil ht)] <;> rfl))
        | (with_reducible rw [ifQ_t])
        | (with_reducible rw [ifQ_f])
        | (with_reducible refine ifQ_intro ?_ ?_ <;> intro hb))
        exact r_rq_n (k := t.length - (i + 1)) (by omega) ⟨_, _, i + 1, rfl, rfl, by omega, rfl, by omega, (by first | (simp only [Tget_set, Nat.reduceEqDiff, ↓reduceIte, u1] <;> rfl) | rfl), (by first | (simp only [Tget_set, Nat.reduceEqDiff, ↓reduceIte] <;> rfl) | rfl), (by first | (simp only [Tget_set, ↓reduceIte] <;> rfl) | rfl)⟩
      · repeat' (first
        | with_reducible refine r_seq ?_
        | with_reducible refine r_next ?_
        | with_reducible refine r_block ?_
        | with_reducible refine r_seq_exit ?_
        | with_reducible refine r_seq_ret ?_
        | with_reducible refine r_blk_n ?_
        | with_reducible refine r_blk_ret ?_
        | with_reducible refine r_blk_hit ?_
        | with_reducible refine r_blk_miss rfl ?_
        | with_reducible refine r_skip ?_
        | with_reducible refine r_exit ?_
        | with_reducible refine r_ret ?_
        | with_reducible refine r_rq_exit ?_
        | with_reducible refine r_rq_ret ?_
        | ((with_reducible apply r_regA); (focus (simp only [List.append_eq, List.cons_append, List.nil_append] <;> rfl)); (focus (first | exact Nat.le_of_ble_eq_true rfl | (simp only [List.length_cons, List.length_nil]; omega))))
        | ((with_reducible refine r_reg (List.toList_toArray) ?_ ?_); focus (first | exact Nat.le_of_ble_eq_true rfl | (simp only [List.length_cons, List.length_nil]; omega)))
        | ((with_reducible apply r_drawL); (focus kernel_rfl); (focus kernel_rfl); (focus (first | exact Nat.le_of_ble_eq_true rfl | (simp only [List.length_cons, List.length_nil]; omega))))
        | ((with_reducible apply r_end); focus (simp only [Nat.add_assoc, Nat.reduceAdd, Nat.zero_add] <;> rfl))
        | ((with_reducible (first | apply r_move | apply r_assign)); (focus (simp only [Tget_set, Nat.reduceEqDiff, ↓reduceIte, u4, u5] <;> rfl)); (focus (exact Nat.le_of_ble_eq_true rfl)))
        | ((with_reducible apply r_condT); (focus (simp only [Tget_set, ↓reduceIte] <;> rfl)))
        | ((with_reducible (first | apply r_any | apply r_cond)); focus (simp only [↓reduceIte, wantedA_eq, gBool_f, Bool.not_false, clsOf, clsCall, Fr.ev, ofV, ofA, ofS, put_mk, pureOp, readOp, pFA, pFA1, pFA2, rLd, rdAB_row, oneCell_one, hget_same, pBin, binA, intOp_eql, intOp_lss, pPick, List.length_cons, List.length_nil, List.getElem?_cons_zero, List.getElem?_cons_succ, List.drop_zero, List.drop_succ_cons, List.take_succ_cons, List.take_zero, Nat.zero_add, Nat.reduceAdd, Nat.reduceLT, Nat.reduceLeDiff, Nat.reduceEqDiff, Nat.add_eq, loadA_w, loadW_s, binA, stepOp, stV_mk, sz9, ag9, Tryz.underlying9, Tryz.underlying79, stepAny, wantedA_none, rCall, rLen, rLen1_str, lenA, Tget_set, u1, u5, lt_t hil, ix, e1, e2, rSl, pSlice, evO, sl, s1, s2, intOp_add (inR_succ hil ht)] <;> rfl))
        | (with_reducible rw [ifQ_t])
        | (with_reducible rw [ifQ_f])
        | (with_reducible refine ifQ_intro ?_ ?_ <;> intro hb))
        exact r_rq_n (k := t.length - (i + 1)) (by omega) ⟨_, _, i + 1, rfl, rfl, by omega, rfl, by omega, (by first | (simp only [Tget_set, Nat.reduceEqDiff, ↓reduceIte, u1] <;> rfl) | rfl), (by first | (simp only [Tget_set, Nat.reduceEqDiff, ↓reduceIte] <;> rfl) | rfl), (by first | (simp only [Tget_set, ↓reduceIte] <;> rfl) | rfl)⟩
    · have e1 : (((c.toNat : Nat) : Int) == 34) = false := beq_eq_false_iff_ne.2 (by omega)
      have e2 : (((c.toNat : Nat) : Int) == 92) = false := beq_eq_false_iff_ne.2 (by omega)
      have hnew : (34 :: escL (t.take i)) ++ [c] = 34 :: escL (t.take (i + 1)) := by rw [hst, esc_f hq]; rfl
      rw [hnew] at s3
      repeat' (first
      | with_reducible refine r_seq ?_
      | with_reducible refine r_next ?_
      | with_reducible refine r_block ?_
      | with_reducible refine r_seq_exit ?_
      | with_reducible refine r_seq_ret ?_
      | with_reducible refine r_blk_n ?_
      | with_reducible refine r_blk_ret ?_
      | with_reducible refine r_blk_hit ?_
      | with_reducible refine r_blk_miss rfl ?_
      | with_reducible refine r_skip ?_
      | with_reducible refine r_exit ?_
      | with_reducible refine r_ret ?_
      | with_reducible refine r_rq_exit ?_
      | with_reducible refine r_rq_ret ?_
      | ((with_reducible apply r_regA); (focus (simp only [List.append_eq, List.cons_append, List.nil_append] <;> rfl)); (focus (first | exact Nat.le_of_ble_eq_true rfl | (simp only [List.length_cons, List.length_nil]; omega))))
      | ((with_reducible refine r_reg (List.toList_toArray) ?_ ?_); focus (first | exact Nat.le_of_ble_eq_true rfl | (simp only [List.length_cons, List.length_nil]; omega)))
      | ((with_reducible apply r_drawL); (focus kernel_rfl); (focus kernel_rfl); (focus (first | exact Nat.le_of_ble_eq_true rfl | (simp only [List.length_cons, List.length_nil]; omega))))
      | ((with_reducible apply r_end); focus (simp only [Nat.add_assoc, Nat.reduceAdd, Nat.zero_add] <;> rfl))
      | ((with_reducible (first | apply r_move | apply r_assign)); (focus (simp only [Tget_set, Nat.reduceEqDiff, ↓reduceIte, u4, u5] <;> rfl)); (focus (exact Nat.le_of_ble_eq_true rfl)))
      | ((with_reducible apply r_condT); (focus (simp only [Tget_set, ↓reduceIte] <;> rfl)))
      | ((with_reducible (first | apply r_any | apply r_cond)); focus (simp only [↓reduceIte, wantedA_eq, gBool_f, Bool.not_false, clsOf, clsCall, Fr.ev, ofV, ofA, ofS, put_mk, pureOp, readOp, pFA, pFA1, pFA2, rLd, rdAB_row, oneCell_one, hget_same, pBin, binA, intOp_eql, intOp_lss, pPick, List.length_cons, List.length_nil, List.getElem?_cons_zero, List.getElem?_cons_succ, List.drop_zero, List.drop_succ_cons, List.take_succ_cons, List.take_zero, Nat.zero_add, Nat.reduceAdd, Nat.reduceLT, Nat.reduceLeDiff, Nat.reduceEqDiff, Nat.add_eq, loadA_w, loadW_s, binA, stepOp, stV_mk, sz9, ag9, Tryz.underlying9, Tryz.underlying79, stepAny, wantedA_none, rCall, rLen, rLen1_str, lenA, Tget_set, u1, u5, lt_t hil, ix, e1, e2, rSl, pSlice, evO, sl, s3, intOp_add (inR_succ hil ht)] <;> rfl))
      | (with_reducible rw [ifQ_t])
      | (with_reducible rw [ifQ_f])
      | (with_reducible refine ifQ_intro ?_ ?_ <;> intro hb))
      exact r_rq_n (k := t.length - (i + 1)) (by omega) ⟨_, _, i + 1, rfl, rfl, by omega, rfl, by omega, (by first | (simp only [Tget_set, Nat.reduceEqDiff, ↓reduceIte, u1] <;> rfl) | rfl), (by first | (simp only [Tget_set, Nat.reduceEqDiff, ↓reduceIte] <;> rfl) | rfl), (by first | (simp only [Tget_set, ↓reduceIte] <;> rfl) | rfl)⟩
  · have hend : i = t.length := by omega
    have htk : t.take i = t := by rw [hend]; exact List.take_length
    rw [htk] at u4 hel
    have s1 := strOp_add (a := 34 :: escL t) (b := [34]) (by simp only [List.length_cons, List.length_nil]; omega)
    repeat' (first
    | with_reducible refine r_seq ?_
    | with_reducible refine r_next ?_
    | with_reducible refine r_block ?_
    | with_reducible refine r_seq_exit ?_
    | with_reducible refine r_seq_ret ?_
    | with_reducible refine r_blk_n ?_
    | with_reducible refine r_blk_ret ?_
    | with_reducible refine r_blk_hit ?_
    | with_reducible refine r_blk_miss rfl ?_
    | with_reducible refine r_skip ?_
    | with_reducible refine r_exit ?_
    | with_reducible refine r_ret ?_
    | with_reducible refine r_rq_exit ?_
    | with_reducible refine r_rq_ret ?_
    | ((with_reducible apply r_regA); (focus (simp only [List.append_eq, List.cons_append, List.nil_append] <;> rfl)); (focus (first | exact Nat.le_of_ble_eq_true rfl | (simp only [List.length_cons, List.length_nil]; omega))))
    | ((with_reducible refine r_reg (List.toList_toArray) ?_ ?_); focus (first | exact Nat.le_of_ble_eq_true rfl | (simp only [List.length_cons, List.length_nil]; omega)))
    | ((with_reducible apply r_drawL); (focus kernel_rfl); (focus kernel_rfl); (focus (first | exact Nat.le_of_ble_eq_true rfl | (simp only [List.length_cons, List.length_nil]; omega))))
    | ((with_reducible apply r_end); focus (simp only [Nat.add_assoc, Nat.reduceAdd, Nat.zero_add] <;> rfl))
    | ((with_reducible (first | apply r_move | apply r_assign)); (focus (simp only [Tget_set, Nat.reduceEqDiff, ↓reduceIte, u4, u5] <;> rfl)); (focus (exact Nat.le_of_ble_eq_true rfl)))
    | ((with_reducible apply r_condT); (focus (simp only [Tget_set, ↓reduceIte] <;> rfl)))
    | ((with_reducible (first | apply r_any | apply r_cond)); focus (simp only [↓reduceIte, clsOf, clsCall, Fr.ev, ofV, ofA, ofS, put_mk, pureOp, readOp, pFA, pFA1, pFA2, rLd, rdAB_row, oneCell_one, hget_same, pBin, binA, intOp_lss, List.length_cons, List.length_nil, List.getElem?_cons_zero, List.getElem?_cons_succ, List.drop_zero, List.drop_succ_cons, List.take_succ_cons, List.take_zero, Nat.zero_add, Nat.reduceAdd, Nat.reduceLT, Nat.reduceLeDiff, Nat.reduceEqDiff, Nat.add_eq, loadA_w, loadW_s, binA, stepOp, stV_mk, sz9, ag9, Tryz.underlying9, Tryz.underlying79, stepAny, wantedA_none, rCall, rLen, rLen1_str, lenA, Tget_set, u1, lt_f hil, s1] <;> rfl))
    | (with_reducible rw [ifQ_t])
    | (with_reducible rw [ifQ_f])
    | (with_reducible refine ifQ_intro ?_ ?_ <;> intro hb))
    subst hQ
    refine ret_back (by simp only [Tryz.results46, resultOf, resultsA, resultA, List.toList_toArray, Fr.ev, Tget_set, Nat.reduceEqDiff, ↓reduceIte] <;> rfl) ?_
    exact ⟨_, rfl, by repeat (first | exact Same.base _ _ _ | refine Same.hset hw ?_ (ky_le _ _))⟩
set_option maxHeartbeats 4000000 in
theorem vprint (h : Heap) (F : Nat) (k n : Int) (t : List UInt8) (hn : in64 n) (ht : t.length ≤ maxLen) : Snd Tryz.prog GL 46 [.agg [.int .i64 k, .int .i64 n, .str t]] ⟨h, F⟩ [.val (.tup [.str (printV k n t), .int .i64 (codeV k n t)]) ⟨h, F⟩] := by
  by_cases hv : vOk k n t
  · by_cases k1 : k = 1
    · subst k1
      refine snd_val (by simp [Kin, Kins]) fun hw => ?_
      refine sndQ_body (K := (KT S0)) kt_ok mixed noNum (m := 0) Tryz.func46 ?_
      generalize hQ : retQ _ _ _ _ _ _ = Q0
      refine body_go (c := Tryz.f46.body.getD .skip) (n := 49) rfl rfl (by simp only [↓reduceIte, T.setList, T.set_e] <;> rfl) ?_
      simp only [Tryz.f46, Option.getD_some]
      repeat' (first
      | with_reducible refine r_seq ?_
      | with_reducible refine r_next ?_
      | with_reducible refine r_block ?_
      | with_reducible refine r_seq_exit ?_
      | with_reducible refine r_seq_ret ?_
      | with_reducible refine r_blk_n ?_
      | with_reducible refine r_blk_ret ?_
      | with_reducible refine r_blk_hit ?_
      | with_reducible refine r_blk_miss rfl ?_
      | with_reducible refine r_skip ?_
      | with_reducible refine r_exit ?_
      | with_reducible refine r_ret ?_
      | with_reducible refine r_rq_exit ?_
      | with_reducible refine r_rq_ret ?_
      | ((with_reducible apply r_regA); (focus (simp only [List.append_eq, List.cons_append, List.nil_append] <;> rfl)); (focus (first | exact Nat.le_of_ble_eq_true rfl | (simp only [List.length_cons, List.length_nil]; omega))))
      | ((with_reducible refine r_reg (List.toList_toArray) ?_ ?_); focus (first | exact Nat.le_of_ble_eq_true rfl | (simp only [List.length_cons, List.length_nil]; omega)))
      | ((with_reducible apply r_drawL); (focus kernel_rfl); (focus kernel_rfl); (focus (first | exact Nat.le_of_ble_eq_true rfl | (simp only [List.length_cons, List.length_nil]; omega))))
      | ((with_reducible apply r_end); focus (simp only [Nat.reduceAdd, Nat.zero_add] <;> rfl))
      | ((with_reducible (first | apply r_move | apply r_assign)); (focus (simp only [T.get_n, Nat.reduceEqDiff, Nat.reduceDiv, Nat.reduceMod, Nat.reduceSub, ↓reduceIte] <;> rfl)); (focus (exact Nat.le_of_ble_eq_true rfl)))
      | ((with_reducible apply r_condT); (focus (simp only [Tget_set, T.get_n, Nat.reduceEqDiff, Nat.reduceDiv, Nat.reduceMod, Nat.reduceSub, ↓reduceIte] <;> rfl)))
      | ((with_reducible (first | apply r_any | apply r_cond)); focus (simp only [↓reduceIte, Bool.not_true, clsOf, clsCall, newBlk, allocOp, Fr.ev, evs, ofV, ofA, ofS, nVar, AV.cells, rowOf_mk, put_mk, upd_mk, keyOf_mk, pureOp, readOp, pFA, pFA1, pFA2, rLd, rdAB_row, oneCell_one, someAgg_s, hget_same, pBin, binA, intOp_eql, List.length_cons, List.length_nil, List.getElem?_cons_zero, List.getElem?_cons_succ, List.drop_zero, List.drop_succ_cons, List.take_succ_cons, List.take_zero, Nat.zero_add, Nat.add_zero, Nat.reduceAdd, Nat.reduceLT, Nat.reduceLeDiff, Nat.reduceEqDiff, Nat.reduceSub, Nat.add_eq, loadA_w, loadW_a, loadW_s, pUn_not, callTo_s, heavyCall, target, List.nil_append, List.append_nil, binA, beq_self_eq_true, Int.reduceBEq, stepOp, stHeavy, stV_mk, stB_mk, stO_mk, T.get_n, T.set_n, T.set_e, Nat.reduceDiv, Nat.reduceMod, sz2, ag2, sz3, ag3, sz79, ag79, Tryz.underlying79, stepAny, wantedA_none, k_vvalid ht, dec_t hv, k_vdigits hn] <;> rfl))
      | (with_reducible rw [ifQ_t])
      | (with_reducible rw [ifQ_f])
      | (with_reducible refine ifQ_intro ?_ ?_ <;> intro hb))
      subst hQ
      refine ret_back (by simp only [Tryz.results46, resultOf, resultsA, resultA, List.toList_toArray, Fr.ev, T.get_n, Nat.reduceDiv, Nat.reduceMod, Nat.reduceSub, Nat.reduceEqDiff, ↓reduceIte] <;> rfl) ?_
      exact ⟨_, by rw [printV_int hv rfl, codeV_t hv], by repeat (first | exact Same.base _ _ _ | refine Same.hset hw ?_ (ky_le _ _))⟩
    by_cases k0 : k = 0
    · subst k0
      refine snd_val (by simp [Kin, Kins]) fun hw => ?_
      refine sndQ_body (K := (KT S0)) kt_ok mixed noNum (m := 0) Tryz.func46 ?_
      generalize hQ : retQ _ _ _ _ _ _ = Q0
      refine body_go (c := Tryz.f46.body.getD .skip) (n := 49) rfl rfl (by simp only [↓reduceIte, T.setList, T.set_e] <;> rfl) ?_
      simp only [Tryz.f46, Option.getD_some]
      repeat' (first
      | with_reducible refine r_seq ?_
      | with_reducible refine r_next ?_
      | with_reducible refine r_block ?_
      | with_reducible refine r_seq_exit ?_
      | with_reducible refine r_seq_ret ?_
      | with_reducible refine r_blk_n ?_
      | with_reducible refine r_blk_ret ?_
      | with_reducible refine r_blk_hit ?_
      | with_reducible refine r_blk_miss rfl ?_
      | with_reducible refine r_skip ?_
      | with_reducible refine r_exit ?_
      | with_reducible refine r_ret ?_
      | with_reducible refine r_rq_exit ?_
      | with_reducible refine r_rq_ret ?_
      | ((with_reducible apply r_regA); (focus (simp only [List.append_eq, List.cons_append, List.nil_append] <;> rfl)); (focus (first | exact Nat.le_of_ble_eq_true rfl | (simp only [List.length_cons, List.length_nil]; omega))))
      | ((with_reducible refine r_reg (List.toList_toArray) ?_ ?_); focus (first | exact Nat.le_of_ble_eq_true rfl | (simp only [List.length_cons, List.length_nil]; omega)))
      | ((with_reducible apply r_drawL); (focus kernel_rfl); (focus kernel_rfl); (focus (first | exact Nat.le_of_ble_eq_true rfl | (simp only [List.length_cons, List.length_nil]; omega))))
      | ((with_reducible apply r_end); focus (simp only [Nat.reduceAdd, Nat.zero_add] <;> rfl))
      | ((with_reducible (first | apply r_move | apply r_assign)); (focus (simp only [T.get_n, Nat.reduceEqDiff, Nat.reduceDiv, Nat.reduceMod, Nat.reduceSub, ↓reduceIte] <;> rfl)); (focus (exact Nat.le_of_ble_eq_true rfl)))
      | ((with_reducible apply r_condT); (focus (simp only [Tget_set, T.get_n, Nat.reduceEqDiff, Nat.reduceDiv, Nat.reduceMod, Nat.reduceSub, ↓reduceIte] <;> rfl)))
      | ((with_reducible (first | apply r_any | apply r_cond)); focus (simp only [↓reduceIte, Bool.not_true, clsOf, clsCall, newBlk, allocOp, Fr.ev, evs, ofV, ofA, ofS, nVar, AV.cells, rowOf_mk, put_mk, upd_mk, keyOf_mk, pureOp, readOp, pFA, pFA1, pFA2, rLd, rdAB_row, oneCell_one, someAgg_s, hget_same, pBin, binA, intOp_eql, List.length_cons, List.length_nil, List.getElem?_cons_zero, List.drop_zero, List.take_succ_cons, List.take_zero, Nat.zero_add, Nat.add_zero, Nat.reduceAdd, Nat.reduceLT, Nat.reduceLeDiff, Nat.reduceEqDiff, Nat.reduceSub, Nat.add_eq, loadA_w, loadW_a, loadW_s, pUn_not, callTo_s, heavyCall, target, List.nil_append, List.append_nil, binA, beq_self_eq_true, stepOp, stHeavy, stV_mk, stB_mk, stO_mk, T.get_n, T.set_n, T.set_e, Nat.reduceDiv, Nat.reduceMod, sz3, ag3, sz79, ag79, Tryz.underlying79, stepAny, wantedA_none, k_vvalid ht, dec_t hv] <;> rfl))
      | (with_reducible rw [ifQ_t])
      | (with_reducible rw [ifQ_f])
      | (with_reducible refine ifQ_intro ?_ ?_ <;> intro hb))
      subst hQ
      refine ret_back (by simp only [Tryz.results46, resultOf, resultsA, resultA, List.toList_toArray, Fr.ev, T.get_n, Nat.reduceDiv, Nat.reduceMod, Nat.reduceSub, Nat.reduceEqDiff, ↓reduceIte] <;> rfl) ?_
      exact ⟨_, by rw [printV_none hv rfl, codeV_t hv]; rfl, by repeat (first | exact Same.base _ _ _ | refine Same.hset hw ?_ (ky_le _ _))⟩
    · obtain rfl := vk_cases hv k0 k1
      rw [printV_text hv k0 k1, codeV_t hv]
      exact vprint_text h F n t hv
  · refine snd_val (by simp [Kin, Kins]) fun hw => ?_
    refine sndQ_body (K := (KT S0)) kt_ok mixed noNum (m := 0) Tryz.func46 ?_
    generalize hQ : retQ _ _ _ _ _ _ = Q0
    refine body_go (c := Tryz.f46.body.getD .skip) (n := 49) rfl rfl (by simp only [↓reduceIte, T.setList, T.set_e] <;> rfl) ?_
    simp only [Tryz.f46, Option.getD_some]
    repeat' (first
    | with_reducible refine r_seq ?_
    | with_reducible refine r_next ?_
    | with_reducible refine r_block ?_
    | with_reducible refine r_seq_exit ?_
    | with_reducible refine r_seq_ret ?_
    | with_reducible refine r_blk_n ?_
    | with_reducible refine r_blk_ret ?_
    | with_reducible refine r_blk_hit ?_
    | with_reducible refine r_blk_miss rfl ?_
    | with_reducible refine r_skip ?_
    | with_reducible refine r_exit ?_
    | with_reducible refine r_ret ?_
    | with_reducible refine r_rq_exit ?_
    | with_reducible refine r_rq_ret ?_
    | ((with_reducible apply r_regA); (focus (simp only [List.append_eq, List.cons_append, List.nil_append] <;> rfl)); (focus (first | exact Nat.le_of_ble_eq_true rfl | (simp only [List.length_cons, List.length_nil]; omega))))
    | ((with_reducible refine r_reg (List.toList_toArray) ?_ ?_); focus (first | exact Nat.le_of_ble_eq_true rfl | (simp only [List.length_cons, List.length_nil]; omega)))
    | ((with_reducible apply r_drawL); (focus kernel_rfl); (focus kernel_rfl); (focus (first | exact Nat.le_of_ble_eq_true rfl | (simp only [List.length_cons, List.length_nil]; omega))))
    | ((with_reducible apply r_end); focus (simp only [Nat.reduceAdd, Nat.zero_add] <;> rfl))
    | ((with_reducible (first | apply r_move | apply r_assign)); (focus (simp only [Tget_set, T.get_n, T.get_e, Nat.reduceEqDiff, Nat.reduceDiv, Nat.reduceMod, Nat.reduceSub, ↓reduceIte, if_true, if_false] <;> rfl)); (focus (exact Nat.le_of_ble_eq_true rfl)))
    | ((with_reducible apply r_condT); (focus (simp only [T.get_n, Nat.reduceEqDiff, Nat.reduceDiv, Nat.reduceMod, Nat.reduceSub, ↓reduceIte] <;> rfl)))
    | ((with_reducible (first | apply r_any | apply r_cond)); focus (simp only [↓reduceIte, Bool.not_false, clsOf, clsCall, newBlk, allocOp, Fr.ev, evs, ofV, ofA, ofS, nVar, AV.cells, rowOf_mk, put_mk, upd_mk, keyOf_mk, pureOp, readOp, rLd, rdAB_row, someAgg_s, hget_same, List.length_cons, List.length_nil, List.drop_zero, List.take_succ_cons, List.take_zero, Nat.zero_add, Nat.add_zero, Nat.reduceAdd, Nat.reduceLT, Nat.reduceLeDiff, Nat.reduceEqDiff, Nat.reduceSub, loadA_w, loadW_a, pUn_not, callTo_s, heavyCall, target, List.nil_append, List.append_nil, stepOp, stHeavy, stV_mk, stB_mk, stO_mk, T.get_n, T.set_n, T.set_e, Nat.reduceDiv, Nat.reduceMod, sz79, ag79, stepAny, wantedA_none, k_vvalid ht, dec_f hv] <;> rfl))
    | (with_reducible rw [ifQ_t])
    | (with_reducible rw [ifQ_f])
    | (with_reducible refine ifQ_intro ?_ ?_ <;> intro hb))
    subst hQ
    refine ret_back (by simp only [Tryz.results46, resultOf, resultsA, resultA, List.toList_toArray, Fr.ev, T.get_n, Nat.reduceDiv, Nat.reduceMod, Nat.reduceSub, Nat.reduceEqDiff, ↓reduceIte] <;> rfl) ?_
    exact ⟨_, by rw [printV_bad hv, codeV_f hv], by repeat (first | exact Same.base _ _ _ | refine Same.hset hw ?_ (ky_le _ _))⟩
theorem k_vprint {h : Heap} {F : Nat} {k n : Int} {t : List UInt8} (hn : in64 n) (ht : t.length ≤ maxLen) : CallF.fn (KT S) 46 [.agg [.int .i64 k, .int .i64 n, .str t]] ⟨h, F⟩ = some [.val (.tup [.str (printV k n t), .int .i64 (codeV k n t)]) ⟨h, F⟩] := kt_fn rfl (vprint h F k n t hn ht)
end

end Go.Proofs.YtlbjmpbgnbpcoaaGreatDoor

