/- A part of an evaluator over an abstract heap and of the proof that it is sound for the model. CONDITIONS: those that each theorem names. -/
import Derived.Test.YtneoghpfbgjaiaaGreatDoorAiHeap
namespace Go.Ai
open Go
variable {P : Program} {ρ : Map}

/-! ### keys -/
theorem check_plain {t : TypeId} {o : Option AV} (h : plainV P t o = true) (em : Bool) (n : Nat) (u : Value) (w : World) : (Instr.checkKey em (n + 1) t u).run P w = .ok () w := by
  unfold plainV at h
  split at h
  · rename_i hd; simp [Instr.checkKey, run_und hd]
  · rename_i hd; simp [Instr.checkKey, run_und hd]
  · rename_i hd; simp [Instr.checkKey, run_und hd]
  · cases h

theorem plain_part {t : TypeId} {cs : List AV} {off : Nat} (h : plainV P t (partA P t cs off) = true) : ∃ v, partA P t cs off = some v := by
  unfold plainV at h
  split at h
  · rename_i e; exact ⟨_, e⟩
  · rename_i e; exact ⟨_, e⟩
  · rename_i e; exact ⟨_, e⟩
  · cases h

theorem check_fields (em : Bool) (n : Nat) {cs : List AV} {vs : List Value} (r : RVs ρ cs vs) (w : World) : ∀ (fs : List Field), plainFs P cs fs = true →
    (forIn fs PUnit.unit (fun (f : Field) (_ : PUnit) => do
      if f.name ≠ "_" then do
        Instr.checkKey em (n + 1) f.type (← part f.type vs.toArray f.offset)
        pure (ForInStep.yield PUnit.unit)
      else pure (ForInStep.yield PUnit.unit)) : Sem PUnit).run P w = .ok PUnit.unit w
  | [], _ => rfl
  | f :: fs, h => by
    simp only [plainFs] at h
    split at h
    · rename_i hp
      obtain ⟨v, hv⟩ := plain_part hp
      obtain ⟨u, hu, _⟩ := part_rv hv r
      have ih := check_fields em n r w fs h
      simp only [List.forIn_cons, Sem.run_bind]
      split
      · simp only [Sem.run_bind, hu, Result.andThen_ok, check_plain hp, Sem.run_pure]
        exact ih
      · simp only [Sem.run_pure, Result.andThen_ok]
        exact ih
    · cases h

theorem check_sound' {t : TypeId} {k : AV} (h : keyOk P t k = true) {u : Value} (r : RV ρ k u) (em : Bool) (n : Nat) (w : World) : (Instr.checkKey em (n + 2) t u).run P w = .ok () w := by
  unfold keyOk keyD at h
  split at h
  · rename_i fs hd
    split at h
    · obtain ⟨vs, rs, e⟩ := r
      subst e
      rw [Instr.checkKey]
      simp only [Sem.run_bind, run_und hd, Result.andThen_ok]
      have := check_fields (P := P) em n rs w fs.toList h
      rw [← Array.forIn_toList]
      rw [this]
      rfl
    · cases h
  · exact check_plain h em (n + 1) u w
theorem check_sound {t : TypeId} {k : AV} (h : keyOk P t k = true) {u : Value} (r : RV ρ k u) (em : Bool) (w : World) : (Instr.checkKey em 10000 t u).run P w = .ok () w := check_sound' h r em 9998 w

/-! ### looking up -/
theorem REs.length {ρ : Map} : ∀ {es : MEs} {l : List MapEntry}, REs ρ es l → es.length = l.length
  | [], _, r => by simp only [REs] at r; subst r; rfl
  | (_, _, _) :: _, _, ⟨_, _, _, _, _, rs, e⟩ => by subst e; simp [REs.length rs]

theorem sameNow_sound {t : TypeId} {d : TypeDesc} (hd : P.underlying t = some d) {n : Nat} {a b : AV} {r : Bool} (h : eqIn P (n + 1) t a b = some r) {x y : Value} (rx : RV ρ a x) (ry : RV ρ b y) :
    Instr.sameNow d x y = some r ∨ Instr.sameNow d x y = none := by
  simp only [eqIn, hd] at h
  cases d with
  | bool =>
    split at h <;> simp_all
    all_goals (try (obtain ⟨rfl, rfl⟩ := h))
    all_goals (simp only [RV] at rx ry; subst rx ry; simp [Instr.sameNow])
  | int k0 =>
    split at h <;> simp_all
    simp only [RV] at rx ry; subst rx ry
    split at h
    · cases h; simp_all [Instr.sameNow]
    · cases h
  | string =>
    split at h <;> simp_all
    simp only [RV] at rx ry; subst rx ry; simp_all [Instr.sameNow, beq_bytes]
  | _ => right; rfl


/-- what a look-up finds, as the run has it -/
def Found (ρ : Map) (l : List MapEntry) (i0 : Nat) : Option (Nat × AV × AV × Nat) → Option (Nat × Value) → Prop
  | none, o => o = none
  | some (i, k', v, b), o => ∃ k'' v'', o = some (i, v'') ∧ RV ρ k' k'' ∧ RV ρ v v'' ∧ i0 ≤ i ∧ l[i - i0]? = some ⟨k'', v'', b⟩

theorem findAsking_sound {t : TypeId} {k : AV} {u : Value} (rk : RV ρ k u) (w : World) :
    ∀ {es : MEs} {l : List MapEntry} {i : Nat} {o : Option (Nat × AV × AV × Nat)}, findK P t k es i = some o → REs ρ es l →
      ∃ o', (Instr.findAsking t u l i).run P w = .ok o' w ∧ Found ρ l i o o'
  | [], l, i, o, h, r => by
    simp only [REs] at r; subst r
    simp only [findK, Option.some.injEq] at h; subst h
    exact ⟨none, rfl, rfl⟩
  | (k', v, b) :: es, _, i, o, h, ⟨k'', v'', l', rk', rv', rs, e⟩ => by
    subst e
    simp only [findK] at h
    split at h
    · rename_i hq
      cases h
      refine ⟨some (i, v''), ?_, k'', v'', rfl, rk', rv', Nat.le_refl _, by simp⟩
      simp only [Instr.findAsking, Sem.run_bind, equal_sound hq rk rk' w, Result.andThen_ok, if_true, Sem.run_pure]
    · rename_i hq
      obtain ⟨o', h1, h2⟩ := findAsking_sound rk w h rs
      refine ⟨o', ?_, ?_⟩
      · simp only [Instr.findAsking, Sem.run_bind, equal_sound hq rk rk' w, Result.andThen_ok, Bool.false_eq_true, if_false]
        exact h1
      · cases o with
        | none => exact h2
        | some q =>
          obtain ⟨j, q1, q2, q3⟩ := q
          obtain ⟨a1, a2, e1, r1, r2, h3, h4⟩ := h2
          refine ⟨a1, a2, e1, r1, r2, by omega, ?_⟩
          rw [show j - i = (j - (i + 1)) + 1 by simp only [Nat.succ_eq_add_one] at h3; omega]
          simpa using h4
    · cases h

theorem findNow_sound {t : TypeId} {d : TypeDesc} (hd : P.underlying t = some d) {k : AV} {u : Value} (rk : RV ρ k u) :
    ∀ {es : MEs} {l : List MapEntry} {i : Nat} {o : Option (Nat × AV × AV × Nat)}, findK P t k es i = some o → REs ρ es l →
      Instr.findNow d u l i = none ∨ ∃ o', Instr.findNow d u l i = some o' ∧ Found ρ l i o o'
  | [], l, i, o, h, r => by
    simp only [REs] at r; subst r
    simp only [findK, Option.some.injEq] at h; subst h
    exact .inr ⟨none, rfl, rfl⟩
  | (k', v, b) :: es, _, i, o, h, ⟨k'', v'', l', rk', rv', rs, e⟩ => by
    subst e
    simp only [findK] at h
    split at h
    · rename_i hq
      cases h
      rcases sameNow_sound hd hq rk rk' with hs | hs
      · exact .inr ⟨some (i, v''), by simp only [Instr.findNow, hs], k'', v'', rfl, rk', rv', Nat.le_refl _, by simp⟩
      · exact .inl (by simp only [Instr.findNow, hs])
    · rename_i hq
      rcases sameNow_sound hd hq rk rk' with hs | hs
      · rcases findNow_sound hd rk h rs with h1 | ⟨o', h1, h2⟩
        · exact .inl (by simp only [Instr.findNow, hs]; exact h1)
        · refine .inr ⟨o', by simp only [Instr.findNow, hs]; exact h1, ?_⟩
          cases o with
          | none => exact h2
          | some q =>
            obtain ⟨j, q1, q2, q3⟩ := q
            obtain ⟨a1, a2, e1, r1, r2, h3, h4⟩ := h2
            refine ⟨a1, a2, e1, r1, r2, by omega, ?_⟩
            rw [show j - i = (j - (i + 1)) + 1 by simp only [Nat.succ_eq_add_one] at h3; omega]
            simpa using h4
      · exact .inl (by simp only [Instr.findNow, hs])
    · cases h

theorem findKey_sound {t : TypeId} {d : TypeDesc} (hd : P.underlying t = some d) {k : AV} {u : Value} (rk : RV ρ k u) (w : World)
    {es : MEs} {l : List MapEntry} {o : Option (Nat × AV × AV × Nat)} (h : findK P t k es 0 = some o) (r : REs ρ es l) :
    ∃ o', (Instr.findKey t u l).run P w = .ok o' w ∧ Found ρ l 0 o o' := by
  unfold Instr.findKey
  simp only [Sem.run_bind, run_und hd, Result.andThen_ok]
  rcases findNow_sound hd rk h r with h1 | ⟨o', h1, h2⟩
  · rw [h1]
    exact findAsking_sound rk w h r
  · rw [h1]
    exact ⟨o', rfl, h2⟩

theorem keyOk_und {t : TypeId} {k : AV} (h : keyOk P t k = true) : ∃ d, P.underlying t = some d := by
  cases hd : P.underlying t with
  | some d => exact ⟨d, rfl⟩
  | none => simp [keyOk, keyD, hd, plainV] at h

def MapAt (w : World) (ents : Array MapEntry) : Value → Prop
  | .map none => ents = #[]
  | .map (some b) => ∃ clock, w.heap[b]? = some (.map ents clock)
  | _ => False
/-- the entries behind a map's value -/
theorem mapOf_rv {base : Nat} {h : Heap} {w : World} (r : RH ρ base (hget h) w) {m : AV} {es : MEs} (hm : mapOf h m = some es) {x : Value} (rx : RV ρ m x) :
    ∃ ents : Array MapEntry, REs ρ es ents.toList ∧ MapAt w ents x := by
  unfold mapOf at hm
  split at hm
  · cases hm
    simp only [RV] at rx; subst rx
    exact ⟨#[], rfl, rfl⟩
  · rename_i id
    obtain ⟨e, he, hx⟩ := rx
    subst hx
    split at hm
    · rename_i es' clock hg
      cases hm
      obtain ⟨e', ob, h1, h2, h3, ents, h4, h5⟩ := r.blk id _ hg (by simp)
      rw [he] at h1; cases h1
      subst h4
      exact ⟨ents, h5, clock, h3⟩
    · cases hm
  · cases hm

theorem run_getObj {w : World} {b : Nat} {o : Obj} (h : w.heap[b]? = some o) (hn : ∀ c t f, o ≠ .cells c t f) : (getObj b).run P w = .ok o w := by
  cases o <;> simp_all [getObj, Sem.run]

theorem okV_rv {ok : Bool} {v : AV} {b : Bool} {u : Value} (r : RV ρ v u) : RV ρ (okV ok v b) (if ok then .tuple #[u, .bool b] else u) := by
  cases ok
  · exact r
  · exact ⟨[u, .bool b], ⟨_, _, r, ⟨_, _, rfl, rfl, rfl⟩, rfl⟩, rfl⟩

section
variable {fr : Fr} {a : Act} {v : AV}
theorem r_lookup {base : Nat} {h : Heap} {w : World} (rh : RH ρ base (hget h) w) {t : TypeId} {x k : Operand} {ok : Bool} (r : RF ρ fr a)
    (hr : rLk P h ok (P.underlying t) (fr.ev x) (fr.ev k) = some v) : ∃ u, (Instr.lookup t (a.eval x) (a.eval k) ok).run P w = .ok u w ∧ RV ρ v u := by
  unfold rLk at hr
  split at hr
  · rename_i kt et m kk hd hx hk
    have rm := r.ev hx
    have rk := r.ev hk
    unfold rLk1 at hr
    split at hr
    · rename_i es hes
      split at hr
      · rename_i z hko hz
        obtain ⟨zu, hzu, rz, _⟩ := zero_rv (ρ := ρ) hz
        obtain ⟨ents, re, hent⟩ := mapOf_rv rh hes rm
        obtain ⟨dk, hdk⟩ := keyOk_und hko
        have fin : ∀ o, findK P kt kk es 0 = some o → rLk2 ok z (some o) = some v → ∃ u,
            ((do let (v, okk) ← match ← Instr.findKey kt (a.eval k) ents.toList with
                    | some (_, v) => pure (v, true)
                    | none => pure (← zeroValue et, false)
                 pure (if ok then .tuple #[v, .bool okk] else v)) : Sem Value).run P w = .ok u w ∧ RV ρ v u := by
          intro o ho hv
          obtain ⟨o', h1, h2⟩ := findKey_sound hdk rk w ho re
          cases o with
          | none =>
            simp only [Found] at h2; subst h2
            simp only [rLk2, Option.some.injEq] at hv; subst hv
            refine ⟨_, ?_, okV_rv (ok := ok) (b := false) rz⟩
            simp only [Sem.run_bind, h1, Result.andThen_ok, hzu, Sem.run_pure]
          | some q =>
            obtain ⟨i, k', v', b⟩ := q
            obtain ⟨k'', v'', e1, _, rv', _, _⟩ := h2
            subst e1
            simp only [rLk2, Option.some.injEq] at hv; subst hv
            refine ⟨_, ?_, okV_rv (ok := ok) (b := true) rv'⟩
            simp only [Sem.run_bind, h1, Result.andThen_ok, Sem.run_pure]
        cases ho : findK P kt kk es 0 with
        | none => rw [ho] at hr; cases hr
        | some o =>
          rw [ho] at hr
          obtain ⟨u, hu, ru⟩ := fin o ho hr
          refine ⟨u, ?_, ru⟩
          rw [← hu]
          generalize a.eval x = ax at hent ⊢
          cases ax with
          | map q =>
            cases q with
            | none =>
              have hent' : ents = #[] := hent
              subst hent'
              simp only [Instr.lookup, Sem.run_bind, run_und hd, Result.andThen_ok, Sem.run_pure, check_sound hko rk]
              rfl
            | some b =>
              obtain ⟨clock, hb⟩ := hent
              simp only [Instr.lookup, Sem.run_bind, run_und hd, Result.andThen_ok, run_getObj hb (by simp), Sem.run_pure, check_sound hko rk]
              rfl
          | _ => exact hent.elim
      · cases hr
    · cases hr
  · cases hr
end
end Go.Ai
