/- A part of an evaluator over an abstract heap and of the proof that it is sound for the model. CONDITIONS: those that each theorem names. -/
import Derived.Test.YtneoghpfbgjaiaaGreatDoorAiPure
namespace Go.Ai
open Go
variable {P : Program} {ρ : Map}

/-! ### building -/
theorem overA_length {α : Type} : ∀ (cs vs : List α), (overA cs vs).length = cs.length
  | [], vs => by cases vs <;> rfl
  | c :: cs, [] => rfl
  | c :: cs, v :: vs => by simp [overA, overA_length cs vs]
theorem fillA_length {α : Type} : ∀ (cs : List α) (n : Nat) (vs : List α), (fillA cs n vs).length = cs.length
  | cs, 0, vs => by cases cs <;> simp [fillA, overA_length]
  | [], n + 1, vs => rfl
  | c :: cs, n + 1, vs => by simp [fillA, fillA_length cs n vs]
theorem overA_nil {α : Type} (cs : List α) : overA cs [] = cs := by cases cs <;> rfl
theorem overA_rv : ∀ {cs : List AV} {ds : List Value} {vs : List AV} {us : List Value}, RVs ρ cs ds → RVs ρ vs us → RVs ρ (overA cs vs) (overA ds us)
  | [], ds, vs, us, r, s => by simp only [RVs] at r; subst r; cases vs <;> cases us <;> simp [overA, RVs]
  | c :: cs, _, [], us, r, s => by simp only [RVs] at s; subst s; rw [overA_nil, overA_nil]; exact r
  | c :: cs, _, v :: vs, _, ⟨d, ds, _, rs, e⟩, ⟨u, us, ru, ss, e2⟩ => by subst e; subst e2; exact ⟨u, _, ru, overA_rv rs ss, rfl⟩
theorem fillA_rv : ∀ {n : Nat} {cs : List AV} {ds : List Value} {vs : List AV} {us : List Value}, RVs ρ cs ds → RVs ρ vs us → RVs ρ (fillA cs n vs) (fillA ds n us)
  | 0, cs, ds, vs, us, r, s => by
    have e1 : fillA cs 0 vs = overA cs vs := by cases cs <;> rfl
    have e2 : fillA ds 0 us = overA ds us := by cases ds <;> rfl
    rw [e1, e2]; exact overA_rv r s
  | n + 1, [], _, vs, us, r, s => by simp only [RVs] at r; subst r; simp [fillA, RVs]
  | n + 1, c :: cs, _, vs, us, ⟨d, ds, rc, rs, e⟩, s => by subst e; exact ⟨d, _, rc, fillA_rv rs s, rfl⟩

/-- the model's fold over the cells is 'fillA' -/
theorem fillA_snoc {α : Type} : ∀ (n : Nat) (cs : List α) (v : α), fillA cs n [v] = cs.set n v
  | 0, [], _ => rfl
  | 0, c :: cs, v => by simp [fillA, overA, overA_nil]
  | n + 1, [], _ => rfl
  | n + 1, c :: cs, v => by simp [fillA, fillA_snoc n cs v]
theorem overA_cons {α : Type} (cs : List α) (v : α) (vs : List α) : overA cs (v :: vs) = fillA (cs.set 0 v) 1 vs := by
  cases cs with
  | nil => rfl
  | cons c cs =>
    simp only [overA, List.set_cons_zero, fillA]
    try (cases cs <;> simp [fillA])
theorem fillA_cons {α : Type} : ∀ (n : Nat) (cs : List α) (v : α) (vs : List α), fillA cs n (v :: vs) = fillA (cs.set n v) (n + 1) vs
  | 0, cs, v, vs => by
    have : fillA cs 0 (v :: vs) = overA cs (v :: vs) := by cases cs <;> rfl
    rw [this, overA_cons]
  | n + 1, [], v, vs => rfl
  | n + 1, c :: cs, v, vs => by simp [fillA, fillA_cons n cs v vs]
theorem fillA_nil {α : Type} : ∀ (n : Nat) (cs : List α), fillA cs n [] = cs
  | 0, cs => by cases cs <;> rfl
  | n + 1, [] => rfl
  | n + 1, c :: cs => by simp [fillA, fillA_nil n cs]
theorem foldl_fill (off : Nat) : ∀ (l : List Value) (i : Nat) (cells : Array Value),
    ((l.zipIdx i).foldl (fun (cs : Array Value) (x : Value × Nat) => cs.setIfInBounds (off + x.2) x.1) cells).toList = fillA cells.toList (off + i) l
  | [], i, cells => by simp [fillA_nil]
  | v :: vs, i, cells => by
    simp only [List.zipIdx_cons, List.foldl_cons]
    rw [foldl_fill off vs (i + 1), fillA_cons]
    simp [Nat.add_assoc]
theorem fold_fill (off : Nat) (vc cells : Array Value) :
    vc.zipIdx.foldl (fun cs (c, j) => cs.setIfInBounds (off + j) c) cells = (fillA cells.toList off vc.toList).toArray := by
  apply Array.toList_inj.1
  rw [← Array.foldl_toList]
  simp only [Array.toList_zipIdx]
  exact (foldl_fill off vc.toList 0 cells)

theorem one_rv {v : AV} {u : Value} (r : RV ρ v u) (h : u.cells = #[u]) : RVs ρ [v] u.cells.toList := by
  rw [h]; exact ⟨u, [], r, (by simp only [RVs]), rfl⟩
theorem cells_rv {v : AV} {u : Value} (r : RV ρ v u) : RVs ρ v.cells u.cells.toList := by
  cases v with
  | agg cs => obtain ⟨vs, rs, e⟩ := r; subst e; simpa [AV.cells, Value.cells] using rs
  | bool b => exact one_rv r (by simp only [RV] at r; subst r; rfl)
  | int k n => exact one_rv r (by simp only [RV] at r; subst r; rfl)
  | str s => exact one_rv r (by simp only [RV] at r; subst r; rfl)
  | nilp => exact one_rv r (by simp only [RV] at r; subst r; rfl)
  | gptr g o => exact one_rv r (by simp only [RV] at r; subst r; rfl)
  | nils => exact one_rv r (by simp only [RV] at r; subst r; rfl)
  | nilm => exact one_rv r (by simp only [RV] at r; subst r; rfl)
  | nilf => exact one_rv r (by simp only [RV] at r; subst r; rfl)
  | nili => exact one_rv r (by simp only [RV] at r; subst r; rfl)
  | ptr i o => exact one_rv r (by obtain ⟨e, _, h⟩ := r; subst h; rfl)
  | slice i o eo l c => exact one_rv r (by
      obtain ⟨e, _, h⟩ := r
      cases c with
      | some c => obtain ⟨o', _, _, h⟩ := h; subst h; rfl
      | none => obtain ⟨o', _, _, h⟩ := h; subst h; rfl)
  | map i => exact one_rv r (by obtain ⟨e, _, h⟩ := r; subst h; rfl)
  | fn f a c => exact one_rv r (by obtain ⟨a', c', _, _, h⟩ := r; subst h; rfl)
  | iface t x => exact one_rv r (by obtain ⟨y, _, h⟩ := r; subst h; rfl)
  | tup cs => exact one_rv r (by obtain ⟨vs, _, h⟩ := r; subst h; rfl)

/-- parts, as evaluated -/
def RPs (ρ : Map) : List (Nat × AV) → List (Nat × Value) → Prop
  | [], l => l = []
  | (i, v) :: r, l => ∃ u us, RV ρ v u ∧ RPs ρ r us ∧ l = (i, u) :: us
theorem evParts_rv {fr : Fr} {a : Act} (r : RF ρ fr a) : ∀ {l : List (Nat × Operand)} {ps : List (Nat × AV)}, evParts fr l = some ps → RPs ρ ps (l.map fun (i, x) => (i, a.eval x))
  | [], ps, h => by simp [evParts] at h; subst h; rfl
  | (i, x) :: xs, ps, h => by
    simp only [evParts] at h
    split at h
    · rename_i v vs hv hvs
      cases h
      exact ⟨_, _, r.ev hv, evParts_rv r hvs, rfl⟩
    · cases h

theorem fill_struct (fs : List Field) (places : Array (Nat × Nat)) (hp : ∀ (i : Nat) (f : Field) (n : Nat), fs[i]? = some f → sizeT P f.type = some n → places[i]? = some (f.offset, n)) :
    ∀ {ps : List (Nat × AV)} {us : List (Nat × Value)} {cells out : List AV} {cv : Array Value}, RPs ρ ps us → RVs ρ cells cv.toList → buildParts P fs cells ps = some out →
      ∃ ov : List Value, Instr.fill (places[·]?) cv us = some ov.toArray ∧ RVs ρ out ov
  | [], us, cells, out, cv, hr, hc, h => by
    simp only [RPs] at hr; subst hr
    simp only [buildParts, Option.some.injEq] at h; subst h
    exact ⟨cv.toList, by simp [Instr.fill], hc⟩
  | (i, v) :: ps, _, cells, out, cv, ⟨u, us, rv, rs, e⟩, hc, h => by
    subst e
    simp only [buildParts] at h
    split at h
    · rename_i f hf
      split at h
      · rename_i n hn
        split at h
        · rename_i hb
          simp only [listC_eq] at h
          have hl := RVs.length (cells_rv rv)
          have hlc := RVs.length hc
          simp only [Bool.and_eq_true, Nat.ble_eq] at hb
          have hb1 := Nat.eq_of_beq_eq_true hb.1
          have hsz : u.cells.size = n := by rw [← hb1, hl]; simp
          have hcs : cells.length = cv.size := by simpa using hlc
          have := fill_struct fs places hp (cv := (fillA cv.toList f.offset u.cells.toList).toArray) rs (by simpa using fillA_rv hc (cells_rv rv)) h
          obtain ⟨ov, ho, ro⟩ := this
          refine ⟨ov, ?_, ro⟩
          simp only [Instr.fill, hp i f n hf hn]
          rw [if_neg, fold_fill]
          · exact ho
          · simp only [Bool.or_eq_true, decide_eq_true_eq, ne_eq]
            omega
        · cases h
      · cases h
    · cases h

theorem fill_arr (n : Nat) :
    ∀ {ps : List (Nat × AV)} {us : List (Nat × Value)} {cells out : List AV} {cv : Array Value}, RPs ρ ps us → RVs ρ cells cv.toList → buildArr n cells ps = some out →
      ∃ ov : List Value, Instr.fill (fun i => some (i * n, n)) cv us = some ov.toArray ∧ RVs ρ out ov
  | [], us, cells, out, cv, hr, hc, h => by
    simp only [RPs] at hr; subst hr
    simp only [buildArr, Option.some.injEq] at h; subst h
    exact ⟨cv.toList, by simp [Instr.fill], hc⟩
  | (i, v) :: ps, _, cells, out, cv, ⟨u, us, rv, rs, e⟩, hc, h => by
    subst e
    simp only [buildArr] at h
    split at h
    · rename_i hb
      simp only [listC_eq] at h
      have hl := RVs.length (cells_rv rv)
      have hlc := RVs.length hc
      simp only [Bool.and_eq_true, Nat.ble_eq] at hb
      have hb1 := Nat.eq_of_beq_eq_true hb.1
      have hsz : u.cells.size = n := by rw [← hb1, hl]; simp
      have hcs : cells.length = cv.size := by simpa using hlc
      obtain ⟨ov, ho, ro⟩ := fill_arr n (cv := (fillA cv.toList (i * n) u.cells.toList).toArray) rs (by simpa using fillA_rv hc (cells_rv rv)) h
      refine ⟨ov, ?_, ro⟩
      simp only [Instr.fill]
      rw [if_neg, fold_fill]
      · exact ho
      · simp only [Bool.or_eq_true, decide_eq_true_eq, ne_eq]
        omega
    · cases h

end Go.Ai
