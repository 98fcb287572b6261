/- A part of an evaluator over an abstract heap and of the proof that it is sound for the model. CONDITIONS: those that each theorem names. -/
import Derived.Test.YtneoghpfbgjaiaaGreatDoorAiPure3
import Derived.Laws.StructEq
import Derived.IntWalk
namespace Go.Ai
open Go
variable {P : Program} {ρ : Map}

/-! ### equality -/
theorem eqFs_sound {rec : TypeId → AV → AV → Option Bool} {d : Nat}
    (ih : ∀ t a b r, rec t a b = some r → ∀ x y, RV ρ a x → RV ρ b y → ∀ w, (Op.equalIn d t x y).run P w = .ok r w)
    {xs ys : List AV} {us vs : List Value} (rx : RVs ρ xs us) (ry : RVs ρ ys vs) :
    ∀ (fs : List Field) (r : Bool), eqFs P rec xs ys fs = some r → ∀ w, (Op.eqFields d us.toArray vs.toArray fs).run P w = .ok r w
  | [], r, h, w => by simp [eqFs] at h; subst h; rfl
  | f :: fs, r, h, w => by
    simp only [eqFs] at h
    split at h
    · cases h
    · rename_i hn
      have hne : f.name ≠ "_" := by intro e; simp [e] at hn
      split at h
      · rename_i a b ha hb
        obtain ⟨u, hu, ru⟩ := part_rv ha rx
        obtain ⟨v, hv, rv⟩ := part_rv hb ry
        simp only [Op.eqFields, if_pos hne, Sem.run_bind, hu, hv, Result.andThen_ok]
        split at h
        · rename_i hr
          rw [ih _ _ _ _ hr _ _ ru rv w]
          simp only [Result.andThen_ok, Bool.not_true, Bool.false_eq_true, if_false]
          exact eqFs_sound ih rx ry fs r h w
        · rename_i hr
          cases h
          rw [ih _ _ _ _ hr _ _ ru rv w]
          simp only [Result.andThen_ok, Bool.not_false, if_true, Sem.run_pure]
        · cases h
      · cases h

theorem beq_bytes (s u : List UInt8) : ((ByteArray.mk s.toArray) == (ByteArray.mk u.toArray)) = (s == u) := by
  rw [beq_toListBytes, ByteArray.toList_mk, ByteArray.toList_mk]

theorem rv_slice_some {i o eo l : Nat} {c : Option Nat} {x : Value} (r : RV ρ (.slice i o eo l c) x) : ∃ ad n c', x = .slice (some ad) n c' := by
  obtain ⟨e, _, h⟩ := r
  cases c with
  | some c => obtain ⟨o', _, _, h⟩ := h; exact ⟨_, _, _, h⟩
  | none => obtain ⟨o', _, _, h⟩ := h; exact ⟨_, _, _, h⟩

theorem eqIn_sound : ∀ (d : Nat) (t : TypeId) (a b : AV) (r : Bool), eqIn P d t a b = some r → ∀ x y, RV ρ a x → RV ρ b y →
    ∀ d', d ≤ d' → ∀ w, (Op.equalIn d' t x y).run P w = .ok r w
  | 0, t, a, b, r, h => by simp [eqIn] at h
  | d + 1, t, a, b, r, h => by
    intro x y rx ry d' hd w
    obtain ⟨d', rfl⟩ : ∃ k, d' = k + 1 := ⟨d' - 1, by omega⟩
    simp only [eqIn] at h
    split at h
    · rename_i hu; cases h; simp only [RV] at rx ry; subst rx ry; simp [Op.equalIn, run_und hu]
    · rename_i hu
      split at h
      · rename_i hk
        have := of_decide_eq_true hk
        subst this
        cases h; simp only [RV] at rx ry; subst rx ry; simp [Op.equalIn, run_und hu]
      · cases h
    · rename_i hu; cases h; simp only [RV] at rx ry; subst rx ry; simp [Op.equalIn, run_und hu, beq_bytes]
    · rename_i hu; cases h; simp only [RV] at rx ry; subst rx ry; simp [Op.equalIn, run_und hu]
    · rename_i hu; cases h; simp only [RV] at rx ry; obtain ⟨_, _, ry⟩ := ry; subst rx ry; simp [Op.equalIn, run_und hu]
    · rename_i hu; cases h; simp only [RV] at rx ry; obtain ⟨_, _, rx⟩ := rx; subst rx ry; simp [Op.equalIn, run_und hu]
    · rename_i hu; cases h; simp only [RV] at rx ry; subst rx ry; simp [Op.equalIn, run_und hu]
    · rename_i hu; cases h; simp only [RV] at rx ry; obtain ⟨_, _, ry⟩ := ry; subst rx ry; simp [Op.equalIn, run_und hu]
    · rename_i hu; cases h; simp only [RV] at rx ry; obtain ⟨_, _, rx⟩ := rx; subst rx ry; simp [Op.equalIn, run_und hu]
    · rename_i fs xs ys hu
      split at h
      · cases h
      · rename_i hst
        obtain ⟨us, rus, e1⟩ := rx
        obtain ⟨vs, rvs, e2⟩ := ry
        subst e1 e2
        have hf : P.fieldsOf t = fs := by simp [Program.fieldsOf, hu]
        rw [run_equalIn_struct w d' t _ _ (by rw [hf]; exact hu) hst, hf]
        exact eqFs_sound (fun t a b r hr x y rx ry w => eqIn_sound d t a b r hr x y rx ry d' (by omega) w) rus rvs fs.toList r h w
    · rename_i hu; cases h; simp only [RV] at rx ry; subst rx ry; simp [Op.equalIn, run_und hu]
    · rename_i hu; cases h; simp only [RV] at rx; obtain ⟨_, _, _, ry⟩ := rv_slice_some ry; subst rx ry; simp [Op.equalIn, run_und hu]
    · rename_i hu; cases h; simp only [RV] at ry; obtain ⟨_, _, _, rx⟩ := rv_slice_some rx; subst rx ry; simp [Op.equalIn, run_und hu]
    · rename_i hu; cases h; simp only [RV] at rx ry; subst rx ry; simp [Op.equalIn, run_und hu]
    · rename_i hu; cases h; simp only [RV] at rx ry; obtain ⟨_, _, ry⟩ := ry; subst rx ry; simp [Op.equalIn, run_und hu]
    · rename_i hu; cases h; simp only [RV] at rx ry; obtain ⟨_, _, rx⟩ := rx; subst rx ry; simp [Op.equalIn, run_und hu]
    · rename_i hu; cases h; simp only [RV] at rx ry; subst rx ry; simp [Op.equalIn, run_und hu]
    · rename_i hu; cases h; simp only [RV] at rx ry; obtain ⟨_, _, _, _, ry⟩ := ry; subst rx ry; simp [Op.equalIn, run_und hu]
    · rename_i hu; cases h; simp only [RV] at rx ry; obtain ⟨_, _, _, _, rx⟩ := rx; subst rx ry; simp [Op.equalIn, run_und hu]
    · cases h

theorem equal_sound {t : TypeId} {a b : AV} {r : Bool} (h : eqIn P 100 t a b = some r) {x y : Value} (rx : RV ρ a x) (ry : RV ρ b y) (w : World) :
    (Op.equal t x y).run P w = .ok r w := eqIn_sound 100 t a b r h x y rx ry 10000 (by omega) w

/-! ### the guard of == -/
theorem guard_other {op : BinOp} {t : TypeId} {x y : Operand} {u v : Value} (h1 : u ≠ .nilIface) (h2 : ∀ cs, u ≠ .agg cs) : eqGuard op t x y u v = pure () := by
  cases u with
  | nilIface => exact absurd rfl h1
  | agg cs => exact absurd rfl (h2 cs)
  | _ => cases op <;> rfl
theorem guard_other' {op : BinOp} {t : TypeId} {x y : Operand} {v : Value} (h1 : v ≠ .nilIface) : eqGuard op t x y .nilIface v = pure () := by
  cases v with
  | nilIface => exact absurd rfl h1
  | _ => cases op <;> rfl
theorem guard_other'' {op : BinOp} {t : TypeId} {x y : Operand} {us : Array Value} {v : Value} (h1 : ∀ cs, v ≠ .agg cs) : eqGuard op t x y (.agg us) v = pure () := by
  cases v with
  | agg cs => exact absurd rfl (h1 cs)
  | _ => cases op <;> rfl
theorem rv_nili {a : AV} (h : RV ρ a .nilIface) : a = .nili := by
  cases a with
  | nili => rfl
  | slice i o e l c => obtain ⟨_, _, _, h⟩ := rv_slice_some h; cases h
  | _ => simp [RV] at h
theorem rv_agg {a : AV} {cs : Array Value} (h : RV ρ a (.agg cs)) : ∃ l, a = .agg l := by
  cases a with
  | agg l => exact ⟨l, rfl⟩
  | slice i o e l c => obtain ⟨_, _, _, h⟩ := rv_slice_some h; cases h
  | _ => simp [RV] at h
theorem rv_int {a : AV} {k : IntKind} {n : Int} (h : RV ρ a (.int k n)) : a = .int k n := by
  cases a with
  | int k n => simp only [RV] at h; cases h; rfl
  | slice i o e l c => obtain ⟨_, _, _, h⟩ := rv_slice_some h; cases h
  | _ => simp [RV] at h
theorem rv_str {a : AV} {s : ByteArray} (h : RV ρ a (.string s)) : ∃ l, a = .str l := by
  cases a with
  | str l => exact ⟨l, rfl⟩
  | slice i o e l c => obtain ⟨_, _, _, h⟩ := rv_slice_some h; cases h
  | _ => simp [RV] at h
theorem rv_float {a : AV} {k : FloatKind} {n : Nat} (h : RV ρ a (.float k n)) : False := by
  cases a with
  | slice i o e l c => obtain ⟨_, _, _, h⟩ := rv_slice_some h; cases h
  | _ => simp [RV] at h
theorem rv_complex {a : AV} {k : FloatKind} {n m : Nat} (h : RV ρ a (.complex k n m)) : False := by
  cases a with
  | slice i o e l c => obtain ⟨_, _, _, h⟩ := rv_slice_some h; cases h
  | _ => simp [RV] at h

theorem guard_sound {op : BinOp} {t : TypeId} {x y : Operand} {a b : AV} (h : eqGuardOk P t x y a b = true) {u v : Value} (ru : RV ρ a u) (rv : RV ρ b v) (w : World) :
    (eqGuard op t x y u v).run P w = .ok () w := by
  by_cases h1 : u = .nilIface
  · subst h1
    by_cases h2 : v = .nilIface
    · subst h2
      have e1 := rv_nili ru
      have e2 := rv_nili rv
      subst e1 e2
      simp only [eqGuardOk] at h
      split at h
      · cases op <;> first | rfl | simp [eqGuard]
      · cases op <;> first | rfl | simp [eqGuard]
      · cases h
    · rw [guard_other' h2]; rfl
  · by_cases h2 : ∃ cs, u = .agg cs
    · obtain ⟨us, rfl⟩ := h2
      by_cases h3 : ∃ cs, v = .agg cs
      · obtain ⟨vs, rfl⟩ := h3
        obtain ⟨l1, e1⟩ := rv_agg ru
        obtain ⟨l2, e2⟩ := rv_agg rv
        subst e1 e2
        simp only [eqGuardOk] at h
        have h' : P.eqGuardType P.depth t = false := by simpa using h
        cases op <;> first | rfl | simp [eqGuard, h']
      · rw [guard_other'' (fun cs e => h3 ⟨cs, e⟩)]; rfl
    · rw [guard_other h1 (fun cs e => h2 ⟨cs, e⟩)]; rfl

theorem binOp_eql_other {t : TypeId} {x y : Value} (h1 : ∀ k n k' m, x = .int k n → y ≠ .int k' m) (h2 : ∀ s u, x = .string s → y ≠ .string u) (h3 : ∀ k n, x ≠ .float k n) (h4 : ∀ k n m, x ≠ .complex k n m) :
    binOp .eql t x y = (do pure (.bool (← Op.equal t x y))) := by
  cases x with
  | int k n => cases y <;> first | rfl | exact absurd rfl (h1 _ _ _ _ rfl)
  | string s => cases y <;> first | rfl | exact absurd rfl (h2 _ _ rfl)
  | float k n => exact absurd rfl (h3 _ _)
  | complex k n m => exact absurd rfl (h4 _ _ _)
  | _ => cases y <;> rfl
theorem binOp_neq_other {t : TypeId} {x y : Value} (h1 : ∀ k n k' m, x = .int k n → y ≠ .int k' m) (h2 : ∀ s u, x = .string s → y ≠ .string u) (h3 : ∀ k n, x ≠ .float k n) (h4 : ∀ k n m, x ≠ .complex k n m) :
    binOp .neq t x y = (do pure (.bool (!(← Op.equal t x y)))) := by
  cases x with
  | int k n => cases y <;> first | rfl | exact absurd rfl (h1 _ _ _ _ rfl)
  | string s => cases y <;> first | rfl | exact absurd rfl (h2 _ _ rfl)
  | float k n => exact absurd rfl (h3 _ _)
  | complex k n m => exact absurd rfl (h4 _ _ _)
  | _ => cases y <;> rfl

/-! ### numbers and strings -/
theorem wrap_in {n : Int} (h : inI64 n = true) : IntKind.i64.wrap n = n := by
  unfold inI64 at h
  have hb : -9223372036854775808 ≤ n ∧ n ≤ 9223372036854775807 := by
    split at h
    · rename_i m
      have : m < 9223372036854775808 := by simpa using h
      constructor <;> simp only [Int.ofNat_eq_natCast] <;> omega
    · rename_i m
      have : m < 9223372036854775808 := by simpa using h
      constructor
      · rw [Int.negSucc_eq]; omega
      · rw [Int.negSucc_eq]; omega
  exact IntWalk.i64_in n hb

theorem intOp_sound {op : BinOp} {t : TypeId} {k k' : IntKind} {a b : Int} {v : AV} (h : intOp P op t k k' a b = some v) :
    ∃ u, (∀ w, (binOp op t (.int k a) (.int k' b)).run P w = .ok u w) ∧ RV ρ v u := by
  unfold intOp at h
  split at h
  · unfold addI64 at h
    have e : binOp .add t (.int .i64 a) (.int .i64 b) = pure (.int .i64 (IntKind.i64.wrap (a + b))) := by simp [binOp, Op.intArith]
    split at h
    · rename_i hi
      cases h
      refine ⟨.int .i64 (a + b), fun w => ?_, rfl⟩
      rw [e, show (a + b : Int) = Int.add a b from rfl, wrap_in hi]; rfl
    · cases h
      exact ⟨_, fun w => by rw [e]; rfl, rfl⟩
  · unfold addI64 at h
    have e : binOp .sub t (.int .i64 a) (.int .i64 b) = pure (.int .i64 (IntKind.i64.wrap (a - b))) := by simp [binOp, Op.intArith]
    split at h
    · rename_i hi
      cases h
      refine ⟨.int .i64 (a - b), fun w => ?_, rfl⟩
      rw [e, show (a - b : Int) = Int.sub a b from rfl, wrap_in hi]; rfl
    · cases h
      exact ⟨_, fun w => by rw [e]; rfl, rfl⟩
  · split at h
    · rename_i u hu
      exact ⟨u, fun w => run_runP hu w, ofS_rv ρ h⟩
    · cases h

theorem strOp_sound {op : BinOp} {t : TypeId} {s s' : List UInt8} {v : AV} (h : strOp op s s' = some v) :
    ∃ u, (∀ w, (binOp op t (.string ⟨s.toArray⟩) (.string ⟨s'.toArray⟩)).run P w = .ok u w) ∧ RV ρ v u := by
  unfold strOp at h
  split at h
  · split at h
    · rename_i hb
      cases h
      refine ⟨.string ⟨(s ++ s').toArray⟩, fun w => ?_, rfl⟩
      have hl : s.length + s'.length < 4611686018427387904 := by simpa using hb
      simp only [binOp, Op.stringOp]
      have hsz : ∀ l : List UInt8, (ByteArray.mk l.toArray).size = l.length := fun l => by simp [ByteArray.size]
      rw [if_neg]
      · show Result.ok (Value.string (ByteArray.mk s.toArray ++ ByteArray.mk s'.toArray)) w = _
        have e : ByteArray.mk s.toArray ++ ByteArray.mk s'.toArray = ByteArray.mk (s ++ s').toArray := by
          apply ByteArray.ext
          simp
        rw [e]
      · rw [hsz, hsz, show IntKind.i64.max = 9223372036854775807 by decide]
        omega
    · cases h
  all_goals (try (cases h; refine ⟨_, fun w => by simp only [binOp, Op.stringOp, ByteArray.toList_mk]; rfl, by simp only [RV]⟩))
  all_goals cases h

section
variable {fr : Fr} {a : Act} {v : AV}
theorem s_bin {op : BinOp} {t : TypeId} {x y : Operand} (r : RF ρ fr a) (h : pBin P op t x y (fr.ev x) (fr.ev y) = some v) :
    YV P ρ (do pure (.value (← (do eqGuard op t x y (a.eval x) (a.eval y); binOp op t (a.eval x) (a.eval y))))) v := by
  unfold pBin at h
  split at h
  · rename_i u1 u2 h1 h2
    have r1 := r.ev h1
    have r2 := r.ev h2
    unfold binA at h
    split at h
    · rename_i k m k' n
      simp only [RV] at r1 r2
      obtain ⟨u, hu, ru⟩ := intOp_sound (ρ := ρ) h
      refine YV.of (u := u) (fun w => ?_) ru
      rw [r1, r2, eqGuard_at_int]
      simp only [Sem.run_bind, Sem.run_pure, Result.andThen_ok, hu]
    · rename_i s s'
      simp only [RV] at r1 r2
      obtain ⟨u, hu, ru⟩ := strOp_sound (P := P) (ρ := ρ) (t := t) h
      refine YV.of (u := u) (fun w => ?_) ru
      rw [r1, r2, eqGuard_at_string]
      simp only [Sem.run_bind, Sem.run_pure, Result.andThen_ok, hu]
    · rename_i hni hns
      split at h
      · split at h
        · rename_i hg
          split at h
          · rename_i b hb
            cases h
            refine YV.of (u := .bool b) (fun w => ?_) rfl
            have hq := equal_sound hb r1 r2 w
            have e : binOp .eql t (a.eval x) (a.eval y) = (do pure (.bool (← Op.equal t (a.eval x) (a.eval y)))) := by
              refine binOp_eql_other (fun k n k' m e1 e2 => ?_) (fun s u e1 e2 => ?_) (fun k n e => rv_float (by rw [e] at r1; exact r1)) (fun k n m e => rv_complex (by rw [e] at r1; exact r1))
              · rw [e1] at r1; rw [e2] at r2; exact hni k n k' m (rv_int r1) (rv_int r2)
              · rw [e1] at r1; rw [e2] at r2
                obtain ⟨l1, h1⟩ := rv_str r1
                obtain ⟨l2, h2⟩ := rv_str r2
                exact hns l1 l2 h1 h2
            rw [Sem.run_bind, guard_sound hg r1 r2, Result.andThen_ok, e]
            simp [hq]
          · cases h
        · cases h
      · split at h
        · rename_i hg
          split at h
          · rename_i b hb
            cases h
            refine YV.of (u := .bool (!b)) (fun w => ?_) rfl
            have hq := equal_sound hb r1 r2 w
            have e : binOp .neq t (a.eval x) (a.eval y) = (do pure (.bool (!(← Op.equal t (a.eval x) (a.eval y))))) := by
              refine binOp_neq_other (fun k n k' m e1 e2 => ?_) (fun s u e1 e2 => ?_) (fun k n e => rv_float (by rw [e] at r1; exact r1)) (fun k n m e => rv_complex (by rw [e] at r1; exact r1))
              · rw [e1] at r1; rw [e2] at r2; exact hni k n k' m (rv_int r1) (rv_int r2)
              · rw [e1] at r1; rw [e2] at r2
                obtain ⟨l1, h1⟩ := rv_str r1
                obtain ⟨l2, h2⟩ := rv_str r2
                exact hns l1 l2 h1 h2
            rw [Sem.run_bind, guard_sound hg r1 r2, Result.andThen_ok, e]
            simp [hq]
          · cases h
        · cases h
      · cases h
  · cases h
end
end Go.Ai
