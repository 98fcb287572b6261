/- A part of the proof of the law ReplayRings. CONDITIONS: those that each theorem names. -/
import Derived.Lib.SlicesCompact
/-! Sorted and made single, a list of numbers below n is the numbers below n that stand in it. -/
namespace Go.Ai
open Go
theorem strict_ext : ∀ {a b : List Int}, a.Pairwise (· < ·) → b.Pairwise (· < ·) → (∀ x, x ∈ a ↔ x ∈ b) → a = b
  | [], [], _, _, _ => rfl
  | [], b :: bs, _, _, h => absurd ((h b).2 List.mem_cons_self) (by simp)
  | a :: as, [], _, _, h => absurd ((h a).1 List.mem_cons_self) (by simp)
  | a :: as, b :: bs, ha, hb, h => by
    rw [List.pairwise_cons] at ha hb
    have e : a = b := by
      rcases List.mem_cons.1 ((h a).1 List.mem_cons_self) with e | e
      · exact e
      · rcases List.mem_cons.1 ((h b).2 List.mem_cons_self) with e' | e'
        · exact e'.symm
        · have := hb.1 a e
          have := ha.1 b e'
          omega
    subst e
    rw [strict_ext ha.2 hb.2 fun x => ?_]
    constructor
    · intro hx
      rcases List.mem_cons.1 ((h x).1 (List.mem_cons_of_mem _ hx)) with e | e
      · have := ha.1 x hx; omega
      · exact e
    · intro hx
      rcases List.mem_cons.1 ((h x).2 (List.mem_cons_of_mem _ hx)) with e | e
      · have := hb.1 x hx; omega
      · exact e
theorem compact_eq (zs : List Int) : Lib.compact zs = ((List.range zs.length).filter (Lib.keeps zs.toArray)).map (zs[·]!) := by
  unfold Lib.compact Lib.compactUpTo
  refine List.map_congr_left fun i _ => ?_
  simp
theorem compact_le (zs : List Int) : (Lib.compact zs).length ≤ zs.length := by
  rw [compact_eq, List.length_map]
  exact Nat.le_trans (List.length_filter_le _ _) (by simp)
theorem keeps_iff (zs : List Int) (i : Nat) : Lib.keeps zs.toArray i = true ↔ i = 0 ∨ zs[i]! ≠ zs[i - 1]! := by
  simp [Lib.keeps]
theorem get!_mem {zs : List Int} {i : Nat} (h : i < zs.length) : zs[i]! ∈ zs := by
  rw [getElem!_pos zs i h]; exact List.getElem_mem h
theorem mem_compact (zs : List Int) (x : Int) : x ∈ Lib.compact zs ↔ x ∈ zs := by
  rw [compact_eq]
  constructor
  · intro hx
    obtain ⟨i, hi, rfl⟩ := List.mem_map.1 hx
    have := List.mem_range.1 (List.mem_filter.1 hi).1
    exact get!_mem this
  · intro hx
    obtain ⟨i, hi, rfl⟩ := List.getElem_of_mem hx
    suffices h : ∀ m i (hi : i < zs.length), i < m → zs[i] ∈ ((List.range zs.length).filter (Lib.keeps zs.toArray)).map (zs[·]!) from h (i + 1) i hi (by omega)
    intro m
    induction m with
    | zero => intro i _ h; omega
    | succ m ih =>
      intro i hi hm
      by_cases hk : Lib.keeps zs.toArray i = true
      · exact List.mem_map.2 ⟨i, List.mem_filter.2 ⟨List.mem_range.2 hi, hk⟩, getElem!_pos zs i hi⟩
      · have h := (not_congr (keeps_iff zs i)).1 hk
        have h0 : i ≠ 0 := fun e => h (.inl e)
        have h1 : zs[i]! = zs[i - 1]! := Decidable.of_not_not fun e => h (.inr e)
        rw [getElem!_pos zs i hi, getElem!_pos zs (i - 1) (by omega)] at h1
        rw [h1]
        exact ih (i - 1) (by omega) (by omega)
theorem compact_strict {zs : List Int} (h : zs.Pairwise (· ≤ ·)) : (Lib.compact zs).Pairwise (· < ·) := by
  rw [compact_eq, List.pairwise_map, List.pairwise_filter]
  refine List.Pairwise.imp_of_mem (R := (· < ·)) (fun {i j} hi hj hlt _ hk => ?_) List.pairwise_lt_range
  have hi := List.mem_range.1 hi
  have hj := List.mem_range.1 hj
  rw [List.pairwise_iff_getElem] at h
  have hle : ∀ a b (ha : a < zs.length) (hb : b < zs.length), a ≤ b → zs[a] ≤ zs[b] := fun a b ha hb hab => by
    rcases Nat.lt_or_eq_of_le hab with c | c
    · exact h a b ha hb c
    · subst c; exact Int.le_refl _
  rcases (keeps_iff zs j).1 hk with e | e
  · omega
  · have hj1 : j - 1 < zs.length := by omega
    rw [getElem!_pos zs j hj, getElem!_pos zs (j - 1) hj1] at e
    rw [getElem!_pos zs i hi, getElem!_pos zs j hj]
    have a1 := hle i (j - 1) hi hj1 (by omega)
    have a2 := hle (j - 1) j hj1 hj (by omega)
    omega
noncomputable def sorted (zs : List Int) : List Int := zs.mergeSort fun x y => decide (x ≤ y)
theorem sorted_len (zs : List Int) : (sorted zs).length = zs.length := List.length_mergeSort _
theorem sorted_le (zs : List Int) : (sorted zs).Pairwise (· ≤ ·) := by
  have := List.pairwise_mergeSort (le := fun x y : Int => decide (x ≤ y)) (fun a b c h1 h2 => by simp at *; omega) (fun a b => by simp; omega) zs
  exact this.imp fun h => by simpa using h
theorem sorted_mem (zs : List Int) (x : Int) : x ∈ sorted zs ↔ x ∈ zs := List.mem_mergeSort
/-- the numbers below n that stand in a list -/
noncomputable def below (zs : List Int) (n : Nat) : List Int := ((List.range n).map Int.ofNat).filter fun x => decide (x ∈ zs)
theorem below_succ (zs : List Int) (n : Nat) : below zs (n + 1) = below zs n ++ (if (n : Int) ∈ zs then [(n : Int)] else []) := by
  unfold below
  rw [List.range_succ, List.map_append, List.filter_append]
  congr 1
  simp only [List.map_cons, List.map_nil, List.filter_cons, List.filter_nil]
  by_cases h : (n : Int) ∈ zs
  · have h' : Int.ofNat n ∈ zs := h
    rw [if_pos h, if_pos (decide_eq_true h')]; rfl
  · have h' : ¬ Int.ofNat n ∈ zs := h
    rw [if_neg h, if_neg (by simpa using h')]
theorem below_len (zs : List Int) (n : Nat) : (below zs n).length ≤ n := by
  unfold below
  exact Nat.le_trans (List.length_filter_le _ _) (by simp)
theorem single {zs : List Int} {n : Nat} (h : ∀ z ∈ zs, 0 ≤ z ∧ z < n) : Lib.compact (sorted zs) = below zs n := by
  refine strict_ext (compact_strict (sorted_le zs)) ?_ fun x => ?_
  · unfold below
    refine List.Pairwise.filter _ ?_
    rw [List.pairwise_map]
    exact List.pairwise_lt_range.imp fun h => by simpa using h
  · rw [mem_compact, sorted_mem]
    unfold below
    rw [List.mem_filter, decide_eq_true_eq]
    constructor
    · intro hx
      obtain ⟨h0, h1⟩ := h x hx
      exact ⟨List.mem_map.2 ⟨x.toNat, List.mem_range.2 (by omega), by simp; omega⟩, hx⟩
    · exact fun h => h.2
theorem below_nil {zs : List Int} {n : Nat} (h : ∀ z ∈ zs, 0 ≤ z ∧ z < n) (hp : zs ≠ []) : below zs n ≠ [] := by
  intro e
  obtain ⟨z, l, rfl⟩ := List.exists_cons_of_ne_nil hp
  rw [← single h] at e
  have := (mem_compact (sorted (z :: l)) z).2 ((sorted_mem _ _).2 List.mem_cons_self)
  rw [e] at this
  cases this
end Go.Ai
