/- A part of an evaluator over an abstract heap and of the proof that it is sound for the model. CONDITIONS: those that each theorem names. -/
import Derived.Below
import Derived.Test.YtkgfpmbdiidlfaaGreatDoorEngineC
/-! The memory that a call finds, as an abstract heap. -/
namespace Go.Ai
open Go

noncomputable def absC (w : World) : Value → Option AV
  | .bool b => some (.bool b)
  | .int k n => some (.int k n)
  | .string s => some (.str s.data.toList)
  | .pointer none => some .nilp
  | .slice none 0 0 => some .nils
  | .slice (some ⟨b, o, none⟩) len cap => match Nat.blt b w.heap.size && Nat.ble len cap with
    | true => some (.slice b o 0 len (some cap))
    | false => none
  | .map none => some .nilm
  | .nilFunc => some .nilf
  | .nilIface => some .nili
  | _ => none
noncomputable def absCs (w : World) : List Value → Option (List AV)
  | [] => some []
  | v :: vs => match absC w v, absCs w vs with
    | some a, some as' => some (a :: as')
    | _, _ => none
noncomputable def rhoW (w : World) : Map := fun i => if i < w.heap.size then some ⟨i, 0, 0⟩ else none

theorem absC_rv {w : World} {v : Value} {a : AV} (h : absC w v = some a) : RV (rhoW w) a v := by
  unfold absC at h
  split at h
  case h_6 b o len cap =>
    split at h
    · rename_i hb
      cases h
      simp only [Bool.and_eq_true, Nat.blt_eq] at hb
      exact ⟨⟨b, 0, 0⟩, by simp [rhoW, hb.1], o, Nat.le_of_ble_eq_true hb.2, fun _ => rfl, by simp⟩
    · cases h
  all_goals first
    | (cases h; simp [RV]; done)
    | cases h
theorem absCs_rv {w : World} : ∀ {vs : List Value} {as' : List AV}, absCs w vs = some as' → RVs (rhoW w) as' vs
  | [], _, h => by cases h; rfl
  | v :: vs, as', h => by
    simp only [absCs] at h
    split at h
    · rename_i a as1 h1 h2
      cases h
      exact ⟨v, vs, absC_rv h1, absCs_rv h2, rfl⟩
    · cases h
theorem absCs_get {w : World} : ∀ {vs : List Value} {as' : List AV}, absCs w vs = some as' → as'.length = vs.length ∧ ∀ (i : Nat) (v : Value), vs[i]? = some v → absC w v = as'[i]?
  | [], _, h => by cases h; exact ⟨rfl, by simp⟩
  | v :: vs, as', h => by
    simp only [absCs] at h
    split at h
    · rename_i a as1 h1 h2
      cases h
      obtain ⟨g1, g2⟩ := absCs_get h2
      refine ⟨by simp [g1], fun i u hu => ?_⟩
      cases i with
      | zero => simp at hu; subst hu; simpa using h1
      | succ i => simpa using g2 i u (by simpa using hu)
    · cases h
theorem absCs_some {w : World} : ∀ {vs : List Value}, (∀ v, v ∈ vs → ∃ a, absC w v = some a) → ∃ as', absCs w vs = some as'
  | [], _ => ⟨[], rfl⟩
  | v :: vs, h => by
    obtain ⟨a, ha⟩ := h v List.mem_cons_self
    obtain ⟨as1, h1⟩ := absCs_some (vs := vs) fun u hu => h u (List.mem_cons_of_mem _ hu)
    exact ⟨a :: as1, by simp only [absCs, ha, h1]⟩

noncomputable def optT : List (Option AV) → Nat → T AV → T AV
  | [], _, t => t
  | some a :: r, k, t => optT r (k + 1) (t.set k a)
  | none :: r, k, t => optT r (k + 1) t
theorem get_optT : ∀ (l : List (Option AV)) (k : Nat) (t : T AV) (j : Nat), (optT l k t).get j = if k ≤ j then (match l[j - k]? with | some (some a) => some a | _ => t.get j) else t.get j
  | [], k, t, j => by simp [optT]
  | some a :: r, k, t, j => by
    rw [optT, get_optT r, T.get_set]
    by_cases h : k + 1 ≤ j
    · rw [if_pos h, if_pos (show k ≤ j by omega), show j - k = (j - (k + 1)) + 1 by omega, List.getElem?_cons_succ, if_neg (show ¬ j = k by omega)]
    · rw [if_neg h]
      by_cases e : j = k
      · subst e; rw [if_pos rfl, if_pos (Nat.le_refl _), Nat.sub_self]; rfl
      · rw [if_neg e, if_neg (show ¬ k ≤ j by omega)]
  | none :: r, k, t, j => by
    rw [optT, get_optT r]
    by_cases h : k + 1 ≤ j
    · rw [if_pos h, if_pos (by omega), show j - k = (j - (k + 1)) + 1 by omega, List.getElem?_cons_succ]
    · rw [if_neg h]
      by_cases e : j = k
      · subst e; rw [if_pos (Nat.le_refl _), Nat.sub_self]; rfl
      · rw [if_neg (by omega)]
noncomputable def absO (w : World) : Obj → Option AB
  | .cells c _ _ => some (.rom (optT (c.toList.map (absC w)) 0 .e) c.size)
  | _ => none
noncomputable def absHL (w : World) : List Obj → Nat → Heap → Heap
  | [], _, h => h
  | o :: r, k, h => match absO w o with
    | some ab => absHL w r (k + 1) (hset h k ab)
    | none => absHL w r (k + 1) h
theorem hget_absHL (w : World) : ∀ (l : List Obj) (k : Nat) (h : Heap) (j : Nat), hget (absHL w l k h) j = if k ≤ j then (match (l[j - k]?).bind (absO w) with | some ab => some ab | none => hget h j) else hget h j
  | [], k, h, j => by simp [absHL]
  | o :: r, k, h, j => by
    rw [absHL]
    cases ho : absO w o with
    | some ab =>
      simp only
      rw [hget_absHL w r, hget_hset]
      by_cases hk : k + 1 ≤ j
      · rw [if_pos hk, if_pos (show k ≤ j by omega), show j - k = (j - (k + 1)) + 1 by omega, List.getElem?_cons_succ, if_neg (show ¬ j = k by omega)]
      · rw [if_neg hk]
        by_cases e : j = k
        · subst e; rw [if_pos rfl, if_pos (Nat.le_refl _), Nat.sub_self]; simp [ho]
        · rw [if_neg e, if_neg (by omega)]
    | none =>
      simp only
      rw [hget_absHL w r]
      by_cases hk : k + 1 ≤ j
      · rw [if_pos hk, if_pos (by omega), show j - k = (j - (k + 1)) + 1 by omega, List.getElem?_cons_succ]
      · rw [if_neg hk]
        by_cases e : j = k
        · subst e; rw [if_pos (Nat.le_refl _), Nat.sub_self]; simp [ho]
        · rw [if_neg (by omega)]
noncomputable def absH (w : World) : Heap := absHL w w.heap.toList 0 .e
noncomputable def absS (w : World) : St := ⟨absH w, w.heap.size + 1⟩
theorem hget_absH (w : World) (j : Nat) : hget (absH w) j = (w.heap[j]?).bind (absO w) := by
  unfold absH
  rw [hget_absHL, if_pos (Nat.zero_le _), Nat.sub_zero, hget_e]
  have : w.heap.toList[j]? = w.heap[j]? := by simp
  rw [this]
  cases (w.heap[j]?).bind (absO w) <;> rfl
theorem rm_abs (w : World) : RM [] 0 (rhoW w) (absS w) w := by
  refine ⟨⟨fun i ab hi _ => ?_, fun i j e e' _ _ he he' hb => ?_⟩, fun g l h => by simp [gget] at h, Nat.zero_le _, fun i hi => ?_⟩
  · have hi : hget (absH w) i = some ab := hi
    rw [hget_absH] at hi
    cases ho : w.heap[i]? with
    | none => rw [ho] at hi; cases hi
    | some o =>
      rw [ho] at hi
      simp only [Option.bind_some] at hi
      have hlt : i < w.heap.size := by
        rcases Nat.lt_or_ge i w.heap.size with h | h
        · exact h
        · rw [Array.getElem?_eq_none h] at ho; cases ho
      refine ⟨⟨i, 0, 0⟩, o, by simp [rhoW, hlt], Nat.zero_le _, ho, ?_⟩
      cases o with
      | cells c ty fz =>
        simp only [absO, Option.some.injEq] at hi
        subst hi
        refine ⟨c, ty, fz, rfl, by simp, fun k hk av hav => ?_⟩
        rw [get_optT, if_pos (Nat.zero_le _), Nat.sub_zero] at hav
        simp only [List.getElem?_map, Array.getElem?_toList] at hav
        cases hc : c[k]? with
        | none => rw [hc] at hav; simp [T.get_e] at hav
        | some v =>
          rw [hc] at hav
          simp only [Option.map_some] at hav
          cases hv : absC w v with
          | none => rw [hv] at hav; simp [T.get_e] at hav
          | some a =>
            rw [hv] at hav
            simp only [Option.some.injEq] at hav
            subst hav
            exact ⟨v, by rw [Nat.zero_add]; exact hc, absC_rv hv⟩
      | _ => simp [absO] at hi
  · have h1 : e = ⟨i, 0, 0⟩ := by unfold rhoW at he; split at he <;> simp_all
    have h2 : e' = ⟨j, 0, 0⟩ := by unfold rhoW at he'; split at he' <;> simp_all
    subst h1 h2
    exact hb
  · have hi : (w.heap.size + 1) * KK ≤ i := hi
    have : ¬ i < w.heap.size := by unfold KK at hi; omega
    simp [rhoW, this]
/-! ### a memory of which nothing is looked at -/
theorem rm_none (w : World) : RM [] w.heap.size (rhoW w) ⟨.e, w.heap.size + 1⟩ w := by
  refine ⟨⟨fun i ab hi _ => ?_, fun i j e e' ⟨ab, hi, _⟩ => ?_⟩, fun g l h => by simp [gget] at h, Nat.le_refl _, fun i hi => ?_⟩
  · have hi : hget (.e : Heap) i = some ab := hi
    rw [hget_e] at hi; cases hi
  · have hi : hget (.e : Heap) i = some ab := hi
    rw [hget_e] at hi; cases hi
  · have hi : (w.heap.size + 1) * KK ≤ i := hi
    have : ¬ i < w.heap.size := by unfold KK at hi; omega
    simp [rhoW, this]
theorem calls_none {P : Program} {f : FuncId} {fn : Func} {c : Code} (hn : NoNum P) (hf : P.funcs[f]? = some fn) (hb : fn.body = some c) {args : List AV} {w : World} {vs : List Value} {Q : Out → Prop} (rv : RVs (rhoW w) args vs) (h : SndQ P [] f args ⟨.e, w.heap.size + 1⟩ Q)
    (hq : ∀ o, Q o → ∃ s', o = .val (.bool true) s') : Calls P f vs.toArray w fun e w' => e = .returned (.bool true) ∧ Keeps (fun _ => False) w w' := by
  obtain ⟨outs, h1, h2⟩ := h
  have := h1 w.heap.size (rhoW w) w vs rv (rm_none w)
  rw [callFunc_enter hn hf hb] at this
  refine Calls.mono (this : Calls P f vs.toArray w _) ?_
  have keep : ∀ {ρ' : Map} {s' : St} {w' : World}, Adv w.heap.size (fun _ => False) (rhoW w) ⟨.e, w.heap.size + 1⟩ w ρ' s' w' → Keeps (fun _ => False) w w' := fun h =>
    ⟨h.st.keeps.os, h.st.keeps.tape, h.st.keeps.output, h.st.keeps.size, fun b hb _ => h.st.keeps.block b hb (by
      rintro ⟨i, e, ⟨ab, hi, _⟩, _⟩
      have hi : hget (.e : Heap) i = some ab := hi
      rw [hget_e] at hi; cases hi)⟩
  rintro e w' ⟨ρ', ⟨v', s'', u, g1, g2, g3, g4⟩ | ⟨v', s'', u, g1, g2, g3, g4⟩⟩
  · obtain ⟨s0, hs⟩ := hq _ (h2 _ g1)
    cases hs
    simp only [RV] at g3
    subst g3
    exact ⟨g2, keep g4⟩
  · obtain ⟨s0, hs⟩ := hq _ (h2 _ g1)
    cases hs
end Go.Ai

/-! From a law's arguments, as the model hands them over, to abstract values. -/
namespace Go.Ai
open Go Go.RowKit

/-- a type of one cell that can be told: a truth value, a number, a text, a slice -/
def cellT (P : Program) (t : TypeId) : Bool :=
  match P.underlying t with
  | some .bool | some (.int _) | some .string | some (.slice _) => true
  | _ => false
theorem abs_cell {P : Program} {w : World} {r : Reach} {base : Nat} {t : TypeId} {v : Value} (ht : cellT P t = true) (h : Cell.okWide P w r base t v) : ∃ a, absC w v = some a := by
  unfold cellT at ht
  unfold Cell.okWide Cell.ok at h
  split at ht
  · rename_i hu
    rw [hu] at h
    cases v <;> simp at h
    exact ⟨_, rfl⟩
  · rename_i k hu
    rw [hu] at h
    cases v <;> simp at h
    exact ⟨_, rfl⟩
  · rename_i hu
    rw [hu] at h
    cases v <;> simp at h
    exact ⟨_, rfl⟩
  · rename_i e hu
    rw [hu] at h
    cases v with
    | slice b len cap =>
      cases b with
      | none =>
        have h0 : len = 0 ∧ cap = 0 := by
          rcases len with _ | len
          · rcases cap with _ | cap
            · exact ⟨rfl, rfl⟩
            · simp at h
          · simp at h
        obtain ⟨rfl, rfl⟩ := h0
        exact ⟨_, rfl⟩
      | some a =>
        simp at h
        obtain ⟨h1, _, _, h3, row, cells, h4, _⟩ := h
        obtain ⟨b, o, sp⟩ := a
        simp only at h3 h4
        subst h3
        have hb : b < w.heap.size := by
          unfold World.shape? at h4
          cases hq : w.heap[b]? with
          | none => rw [hq] at h4; simp at h4
          | some ob => exact (Array.getElem?_eq_some_iff.1 hq).1
        refine ⟨.slice b o 0 len (some cap), ?_⟩
        have e1 : Nat.blt b w.heap.size = true := by rw [Nat.blt_eq]; exact hb
        have e2 : Nat.ble len cap = true := Nat.ble_eq_true_of_le h1
        simp only [absC, e1, e2, Bool.and_self]
    | _ => simp at h
  · cases ht
theorem abs_agg {P : Program} {w : World} {r : Reach} {base : Nat} {t : TypeId} {v : Value} {fs : Array Field} {ts : List TypeId} (hu : P.underlying t = some (.struct fs)) (hts : P.cellTypes P.depth t = some ts) (hp : ts.all (cellT P) = true) (h : Value.okWide P w r base t v) :
    ∃ cs as', v = .agg cs ∧ absCs w cs.toList = some as' ∧ as'.length = P.cellsOf t := by
  unfold Value.okWide at h
  rw [hu] at h
  obtain ⟨cs, rfl, hsz, ts', hts', _, hc⟩ := h
  rw [hts] at hts'
  cases hts'
  obtain ⟨as', ha⟩ := absCs_some (w := w) (vs := cs.toList) fun u hu' => by
    obtain ⟨i, hi⟩ := List.getElem?_of_mem hu'
    obtain ⟨ut, h1, h2⟩ := hc i u (by simpa using hi)
    exact abs_cell (List.all_eq_true.1 hp ut (List.mem_of_getElem? h1)) h2
  exact ⟨cs, as', rfl, ha, by rw [(absCs_get ha).1]; simpa using hsz⟩
theorem abs_int {P : Program} {w : World} {r : Reach} {base : Nat} {t : TypeId} {k : IntKind} {v : Value} (hu : P.underlying t = some (.int k)) (h : Value.okWide P w r base t v) : ∃ n, v = .int k n ∧ k.min ≤ n ∧ n ≤ k.max := by
  unfold Value.okWide at h
  rw [hu] at h
  simp only [Cell.okWide, hu, Cell.ok] at h
  cases v <;> simp at h
  obtain ⟨h1, h2⟩ := h
  subst h1
  exact ⟨_, rfl, h2⟩
theorem below_of_keeps {w w' : World} (h : Keeps (fun _ => False) w w') : Below w.heap.size w w' := ⟨h.os, h.tape, h.output, h.size, fun k hk => h.block k hk (fun h => h)⟩
theorem kept_of_keeps {w w' : World} (h : Keeps (fun _ => False) w w') (may : MemPlace → Prop) : w.keptBut w' may := by
  refine ⟨h.os, h.output, fun i hi => ?_⟩
  rw [h.block i hi (fun h => h)]
  cases w.heap[i]? with
  | none => rfl
  | some o => cases o <;> simp
end Go.Ai

