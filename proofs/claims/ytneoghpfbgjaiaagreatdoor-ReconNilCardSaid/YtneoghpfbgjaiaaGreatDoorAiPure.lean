/- A part of an evaluator over an abstract heap and of the proof that it is sound for the model. CONDITIONS: those that each theorem names. -/
import Derived.Test.YtneoghpfbgjaiaaGreatDoorAiRel
namespace Go.Ai
open Go
variable {P : Program}

/-! ### tables -/
theorem run_isAggT {t : TypeId} {b : Bool} (h : isAggT P t = some b) (w : World) : (isAgg t).run P w = .ok b w := by
  unfold isAggT at h
  cases e : P.underlying t with
  | none => rw [e] at h; cases h
  | some d =>
    rw [e] at h
    have hu : (underlying t).run P w = .ok d w := by simp [underlying, e]
    unfold isAgg
    rw [Sem.run_bind, hu]
    cases d <;> simp_all
theorem run_sizeT {t : TypeId} {n : Nat} (h : sizeT P t = some n) (w : World) : (sizeOf t).run P w = .ok n w := by
  unfold sizeT at h
  cases e : P.info? t with
  | none => rw [e] at h; cases h
  | some i => rw [e] at h; simp at h; subst h; simp [sizeOf, typeInfo, e]
theorem info_sizeT {t : TypeId} {n : Nat} (h : sizeT P t = some n) : ∃ i, P.info? t = some i ∧ i.size = n := by
  unfold sizeT at h
  cases e : P.info? t with
  | none => rw [e] at h; cases h
  | some i => rw [e] at h; simp at h; exact ⟨i, rfl, h⟩
theorem run_typeInfo' {t : TypeId} {i : TypeInfo} (h : P.info? t = some i) (w : World) : (typeInfo t).run P w = .ok i w := by simp [typeInfo, h]
theorem run_und {t : TypeId} {d : TypeDesc} (h : P.underlying t = some d) (w : World) : (underlying t).run P w = .ok d w := by simp [underlying, h]
theorem run_zeroT {t : TypeId} {z : AV} (h : zeroT P t = some z) (w : World) : ∃ v, (zeroValue t).run P w = .ok v w ∧ ofA v = some z := by
  unfold zeroT at h
  cases e : P.info? t with
  | none => rw [e] at h; cases h
  | some i =>
    rw [e] at h; simp only at h
    cases e2 : i.zero with
    | none => rw [e2] at h; cases h
    | some v => rw [e2] at h; exact ⟨v, by simp [zeroValue, typeInfo, e, e2], h⟩
theorem run_runP {α : Type} {s : Sem α} {a : α} (h : runP P s = some a) (w : World) : s.run P w = .ok a w := by
  induction s with
  | pure x => simp [runP] at h; subst h; rfl
  | program k ih => exact ih P h
  | _ => simp [runP] at h

/-! ### constants -/
theorem ofS_rv (ρ : Map) {v : Value} {a : AV} (h : ofS v = some a) : RV ρ a v := by
  unfold ofS at h
  split at h <;> cases h <;> simp [RV]
theorem ofSs_rv (ρ : Map) : ∀ {l : List Value} {a : List AV}, ofSs l = some a → RVs ρ a l
  | [], a, h => by simp [ofSs] at h; subst h; simp [RVs]
  | v :: vs, a, h => by
    simp only [ofSs] at h
    split at h
    · rename_i x y hx hy
      cases h
      exact ⟨v, vs, ofS_rv ρ hx, ofSs_rv ρ hy, rfl⟩
    · cases h
theorem ofA_rv (ρ : Map) {v : Value} {a : AV} (h : ofA v = some a) : RV ρ a v := by
  unfold ofA at h
  split at h
  · rename_i cs
    split at h
    · rename_i l hl
      cases h
      exact ⟨cs.toList, ofSs_rv ρ hl, by simp⟩
    · cases h
  · exact ofS_rv ρ h
theorem ofAs_rv (ρ : Map) : ∀ {l : List Value} {a : List AV}, ofAs l = some a → RVs ρ a l
  | [], a, h => by simp [ofAs] at h; subst h; simp [RVs]
  | v :: vs, a, h => by
    simp only [ofAs] at h
    split at h
    · rename_i x y hx hy
      cases h
      exact ⟨v, vs, ofA_rv ρ hx, ofAs_rv ρ hy, rfl⟩
    · cases h
theorem ofV_rv (ρ : Map) {v : Value} {a : AV} (h : ofV v = some a) : RV ρ a v := by
  unfold ofV at h
  split at h
  · rename_i cs
    split at h
    · rename_i l hl
      cases h
      exact ⟨cs.toList, ofAs_rv ρ hl, by simp⟩
    · cases h
  · exact ofA_rv ρ h
theorem toS_rv {ρ : Map} {v u : Value} {a : AV} (h : toS a = some v) (r : RV ρ a u) : u = v := by
  unfold toS at h
  split at h <;> cases h <;> simpa [RV] using r

/-! ### frames -/
structure RF (ρ : Map) (fr : Fr) (a : Act) : Prop where
  size : a.tmps.size = fr.n
  tmp : ∀ t, RV ρ ((fr.t.get t).getD .undef) (a.tmps.getD t undef)

theorem RF.mono {ρ ρ' : Map} (h : Mono ρ ρ') {fr : Fr} {a : Act} (r : RF ρ fr a) : RF ρ' fr a := ⟨r.size, fun t => RV.mono h _ _ (r.tmp t)⟩

theorem rv_undef (ρ : Map) : RV ρ .undef undef := ⟨[], by simp [RVs], by simp [undef]⟩

theorem RF.ev {ρ : Map} {fr : Fr} {a : Act} (r : RF ρ fr a) {x : Operand} {v : AV} (h : fr.ev x = some v) : RV ρ v (a.eval x) := by
  cases x with
  | tmp t =>
    have := r.tmp t
    simp only [Fr.ev] at h
    cases e : fr.t.get t with
    | none => rw [e] at h this; cases h; exact this
    | some u => rw [e] at h this; cases h; exact this
  | const c => exact ofV_rv ρ h
  | global g => simp only [Fr.ev, Option.some.injEq] at h; subst h; simp [RV, Act.eval]
  | func f => simp only [Fr.ev, Option.some.injEq] at h; subst h; exact ⟨[], [], by simp [RVs], by simp [RVs], rfl⟩

theorem RF.evs {ρ : Map} {fr : Fr} {a : Act} (r : RF ρ fr a) : ∀ {xs : List Operand} {vs : List AV}, Ai.evs fr xs = some vs → RVs ρ vs (xs.map a.eval)
  | [], vs, h => by simp [Ai.evs] at h; subst h; simp [RVs]
  | x :: xs, vs, h => by
    simp only [Ai.evs] at h
    split at h
    · rename_i v hv
      split at h
      · rename_i ws hw
        cases h
        exact ⟨_, _, r.ev hv, r.evs hw, rfl⟩
      · cases h
    · cases h

theorem RF.put {ρ : Map} {fr fr' : Fr} {a : Act} (r : RF ρ fr a) {dst : Option Tmp} {v : AV} {u : Value} (h : fr.put dst v = some fr') (rv : RV ρ v u) :
    RF ρ fr' (a.put dst u) ∧ fr'.fno = fr.fno ∧ fr'.lc = fr.lc ∧ fr'.df = fr.df ∧ fr'.rc = fr.rc ∧ fr'.n = fr.n := by
  cases dst with
  | none => simp only [Fr.put, Option.some.injEq] at h; subst h; exact ⟨r, rfl, rfl, rfl, rfl, rfl⟩
  | some d =>
    obtain ⟨hd, rfl⟩ := Fr.put_some _ _ _ _ h
    refine ⟨⟨by simp [Act.put, r.size], fun t => ?_⟩, rfl, rfl, rfl, rfl, rfl⟩
    have hd' : d < a.tmps.size := by rw [r.size]; exact hd
    simp only [Act.put, T.get_set]
    by_cases e : t = d
    · subst e
      simp [hd', rv]
    · rw [if_neg e]
      have := r.tmp t
      simpa [Array.getElem?_setIfInBounds_ne (Ne.symm e)] using this

/-! ### parts -/
theorem rvs_extract {ρ : Map} {cs : List AV} {vs : List Value} (r : RVs ρ cs vs) (off n : Nat) : RVs ρ ((cs.drop off).take n) (vs.toArray.extract off (off + n)).toList := by
  simpa using RVs.take n (RVs.drop off r)

theorem part_rv {ρ : Map} {t : TypeId} {cs : List AV} {vs : List Value} {off : Nat} {v : AV} (h : partA P t cs off = some v) (r : RVs ρ cs vs) :
    ∃ u, (∀ w, (part t vs.toArray off).run P w = .ok u w) ∧ RV ρ v u := by
  unfold partA at h
  split at h
  · rename_i hb
    split at h
    · rename_i n hn
      cases h
      refine ⟨.agg (vs.toArray.extract off (off + n)), fun w => ?_, ⟨_, rvs_extract r off n, by simp⟩⟩
      simp [part, run_isAggT hb, run_sizeT hn]
    · cases h
  · rename_i hb
    obtain ⟨u, hu, ru⟩ := RVs.get r off v h
    refine ⟨u, fun w => ?_, ru⟩
    simp only [part, Sem.run_bind, run_isAggT hb, Result.andThen_ok]
    simp [hu]
  · cases h

end Go.Ai
