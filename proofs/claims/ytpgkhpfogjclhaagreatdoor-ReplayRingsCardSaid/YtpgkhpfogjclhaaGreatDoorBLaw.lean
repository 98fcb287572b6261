/- A part of the proof of the law ReplayRings. CONDITIONS: those that each theorem names. -/
import Derived.Test.YtpgkhpfogjclhaaGreatDoorEngineD
import Derived.Test.YtpgkhpfogjclhaaGreatDoorSPLaw
/-! All that stand behind one: the search and the marks tell the same. -/
namespace Go.Ai
open Go
/-- what stands behind: by edges that lead down -/
inductive Reach (M : List (List Int)) (s : Nat) : Nat → Prop where
  | base : Reach M s s
  | step {n k : Nat} {l : List Int} : Reach M s n → M[n]? = some l → (k : Int) ∈ l → k < n → Reach M s k
theorem Reach.le {M : List (List Int)} {s k : Nat} (h : Reach M s k) : k ≤ s := by
  induction h with
  | base => exact Nat.le_refl _
  | step _ _ _ hk ih => omega
noncomputable def behind (M : List (List Int)) (s : Nat) : List Int := ((List.range s).filter fun k => dec (Reach M s k)).map Int.ofNat
/-! ### the search -/
noncomputable def bstep (n : Int) (out : List Int) (c : Int) : List Int := open Classical in if c < 0 ∨ n ≤ c ∨ c ∈ out then out else out ++ [c]
structure BI (M : List (List Int)) (s p : Nat) (out : List Int) : Prop where
  nodup : out.Nodup
  range : ∀ x ∈ out, 0 ≤ x ∧ x < s
  reach : ∀ x ∈ out, Reach M s x.toNat
  closed : ∀ k < p, ∀ x, ((s : Int) :: out)[k]? = some x → ∀ l, M[x.toNat]? = some l → ∀ c ∈ l, 0 ≤ c → c < x → c ∈ out
theorem BI.init (M : List (List Int)) (s : Nat) : BI M s 0 [] := ⟨List.nodup_nil, by simp, by simp, by intro k hk; omega⟩
theorem bstep_ext (n : Int) (out : List Int) (c : Int) : ∃ e, bstep n out c = out ++ e := by
  unfold bstep
  split
  · exact ⟨[], by simp⟩
  · exact ⟨[c], rfl⟩
theorem bfold_ext (n : Int) : ∀ (l out : List Int), ∃ e, l.foldl (bstep n) out = out ++ e
  | [], out => ⟨[], by simp⟩
  | c :: l, out => by
    obtain ⟨e1, h1⟩ := bstep_ext n out c
    obtain ⟨e2, h2⟩ := bfold_ext n l (bstep n out c)
    exact ⟨e1 ++ e2, by rw [List.foldl_cons, h2, h1, List.append_assoc]⟩
theorem bfold_has (n : Int) : ∀ (l out : List Int), ∀ c ∈ l, 0 ≤ c → c < n → c ∈ l.foldl (bstep n) out
  | [], _, c, h, _, _ => by cases h
  | d :: l, out, c, h, h0, hn => by
    rw [List.foldl_cons]
    rcases List.mem_cons.1 h with e | h
    · subst e
      obtain ⟨e, he⟩ := bfold_ext n l (bstep n out c)
      rw [he]
      refine List.mem_append_left _ ?_
      unfold bstep
      split
      · rename_i hc; rcases hc with h | h | h
        · omega
        · omega
        · exact h
      · simp
    · exact bfold_has n l _ c h h0 hn
theorem bfold_keep {M : List (List Int)} {s n : Nat} (hn : n ≤ s) (hr : Reach M s n) {L : List Int} (hL : M[n]? = some L) : ∀ (l out : List Int), (∀ c ∈ l, c ∈ L) → out.Nodup → (∀ x ∈ out, 0 ≤ x ∧ x < s) → (∀ x ∈ out, Reach M s x.toNat) →
    (l.foldl (bstep n) out).Nodup ∧ (∀ x ∈ l.foldl (bstep n) out, 0 ≤ x ∧ x < s) ∧ (∀ x ∈ l.foldl (bstep n) out, Reach M s x.toNat)
  | [], out, _, h1, h2, h3 => ⟨h1, h2, h3⟩
  | c :: l, out, hl, h1, h2, h3 => by
    rw [List.foldl_cons]
    refine bfold_keep hn hr hL l _ (fun d hd => hl d (List.mem_cons_of_mem _ hd)) ?_ ?_ ?_
    all_goals unfold bstep
    · split
      · exact h1
      · rename_i hc
        have hc1 : ¬ c ∈ out := fun h => hc (.inr (.inr h))
        rw [List.nodup_append]
        exact ⟨h1, by simp, fun a ha b hb => by rw [List.mem_singleton] at hb; subst hb; intro e; subst e; exact hc1 ha⟩
    · split
      · exact h2
      · rename_i hc
        intro x hx
        rcases List.mem_append.1 hx with hx | hx
        · exact h2 x hx
        · rw [List.mem_singleton] at hx
          subst hx
          have a1 : ¬ x < 0 := fun h => hc (.inl h)
          have a2 : ¬ (n : Int) ≤ x := fun h => hc (.inr (.inl h))
          omega
    · split
      · exact h3
      · rename_i hc
        intro x hx
        rcases List.mem_append.1 hx with hx | hx
        · exact h3 x hx
        · rw [List.mem_singleton] at hx
          subst hx
          have a1 : ¬ x < 0 := fun h => hc (.inl h)
          have a2 : ¬ (n : Int) ≤ x := fun h => hc (.inr (.inl h))
          exact Reach.step hr hL (by rw [show ((x.toNat : Nat) : Int) = x by omega]; exact hl x List.mem_cons_self) (by omega)
/-- the element that is looked at -/
theorem BI.at {M : List (List Int)} {s p : Nat} {out : List Int} (h : BI M s p out) (hp : p ≤ out.length) : ∃ n : Nat, ((s : Int) :: out)[p]? = some (n : Int) ∧ n ≤ s ∧ Reach M s n := by
  cases p with
  | zero => exact ⟨s, rfl, Nat.le_refl _, .base⟩
  | succ p =>
    have hlt : p < out.length := by omega
    have hm : out[p] ∈ out := List.getElem_mem hlt
    have h1 := h.range _ hm
    refine ⟨(out[p]).toNat, ?_, by omega, h.reach _ hm⟩
    rw [List.getElem?_cons_succ, List.getElem?_eq_getElem hlt]
    congr 1
    omega
theorem BI.step {M : List (List Int)} {s p n : Nat} {out : List Int} (h : BI M s p out) (hp : p ≤ out.length) (hn : ((s : Int) :: out)[p]? = some (n : Int)) {L : List Int} (hL : M[n]? = some L) : BI M s (p + 1) (L.foldl (bstep n) out) := by
  obtain ⟨n', h1, h2, h3⟩ := h.at hp
  rw [hn] at h1
  have e : n = n' := by have := Option.some.inj h1; omega
  subst e
  obtain ⟨k1, k2, k3⟩ := bfold_keep h2 h3 hL L out (fun _ h => h) h.nodup h.range h.reach
  obtain ⟨ex, hex⟩ := bfold_ext n L out
  refine ⟨k1, k2, k3, ?_⟩
  intro k hk x hx l hl c hc h0 hcx
  have hk' : k < ((s : Int) :: out).length := by simp; omega
  have hx' : ((s : Int) :: out)[k]? = some x := by
    rw [hex, ← List.cons_append, List.getElem?_append_left hk'] at hx
    exact hx
  by_cases hkp : k < p
  · rw [hex]
    exact List.mem_append_left _ (h.closed k hkp x hx' l hl c hc h0 hcx)
  · have : k = p := by omega
    subst this
    rw [hn] at hx'
    cases hx'
    simp only [Int.toNat_natCast] at hl
    rw [hL] at hl
    cases hl
    exact bfold_has n L out c hc h0 hcx
theorem nodup_len : ∀ (s : Nat) (l : List Nat), l.Nodup → (∀ x ∈ l, x < s) → l.length ≤ s
  | 0, l, _, h => by
    cases l with
    | nil => exact Nat.le_refl _
    | cons a l => have := h a List.mem_cons_self; omega
  | s + 1, l, hn, h => by
    have := nodup_len s (l.erase s) (hn.erase s) fun x hx => by
      have h1 := (hn.mem_erase_iff).1 hx
      have := h x h1.2
      have := h1.1
      omega
    have h2 := List.length_erase (a := s) (l := l)
    split at h2 <;> omega
theorem short_of {s : Nat} {out : List Int} (hn : out.Nodup) (hr : ∀ x ∈ out, 0 ≤ x ∧ x < s) : out.length ≤ s := by
  have hsub : (out.map Int.toNat).Nodup := by
    rw [List.nodup_iff_pairwise_ne, List.pairwise_map]
    refine List.Pairwise.imp_of_mem ?_ (List.nodup_iff_pairwise_ne.1 hn)
    intro a b ha hb hne e
    have := hr a ha
    have := hr b hb
    omega
  have := nodup_len s _ hsub fun x hx => by
    obtain ⟨y, hy, rfl⟩ := List.mem_map.1 hx
    have := hr y hy
    omega
  simpa using this
theorem BI.short {M : List (List Int)} {s p : Nat} {out : List Int} (h : BI M s p out) : out.length ≤ s := short_of h.nodup h.range
theorem BI.part {M : List (List Int)} {s p n : Nat} {out : List Int} (h : BI M s p out) (hp : p ≤ out.length) (hn : ((s : Int) :: out)[p]? = some (n : Int)) {L : List Int} (hL : M[n]? = some L) (j : Nat) : ((L.take j).foldl (bstep n) out).length ≤ s := by
  obtain ⟨n', h1, h2, h3⟩ := h.at hp
  rw [hn] at h1
  have e : n = n' := by have := Option.some.inj h1; omega
  subst e
  obtain ⟨k1, k2, _⟩ := bfold_keep h2 h3 hL (L.take j) out (fun _ h => List.mem_of_mem_take h) h.nodup h.range h.reach
  exact short_of k1 k2
theorem BI.all {M : List (List Int)} {s p : Nat} {out : List Int} (h : BI M s p out) (hp : p = out.length + 1) {k : Nat} (hk : Reach M s k) : k = s ∨ (k : Int) ∈ out := by
  induction hk with
  | base => exact .inl rfl
  | step hr hM hc hlt ih =>
    rename_i n k l
    right
    have hmem : (n : Int) ∈ ((s : Int) :: out) := by
      rcases ih with e | e
      · rw [e]; exact List.mem_cons_self
      · exact List.mem_cons_of_mem _ e
    obtain ⟨i, hi⟩ := List.getElem?_of_mem hmem
    have hil := (List.getElem?_eq_some_iff.1 hi).1
    exact h.closed i (by simp at hil; omega) n hi l (by simpa using hM) k hc (by omega) (by omega)
theorem behind_sorted (M : List (List Int)) (s : Nat) : (behind M s).Pairwise (· < ·) := by
  unfold behind
  rw [List.pairwise_map]
  refine List.Pairwise.filter _ ?_
  refine List.Pairwise.imp ?_ List.pairwise_lt_range
  intro a b h
  exact Int.ofNat_lt.2 h
theorem mem_behind {M : List (List Int)} {s : Nat} {x : Int} : x ∈ behind M s ↔ ∃ k : Nat, x = k ∧ k < s ∧ Reach M s k := by
  unfold behind
  rw [List.mem_map]
  constructor
  · rintro ⟨k, hk, rfl⟩
    obtain ⟨h1, h2⟩ := List.mem_filter.1 hk
    exact ⟨k, rfl, List.mem_range.1 h1, dec_iff.1 h2⟩
  · rintro ⟨k, rfl, h1, h2⟩
    exact ⟨k, List.mem_filter.2 ⟨List.mem_range.2 h1, dec_iff.2 h2⟩, rfl⟩
theorem sorted_strict {l : List Int} (hn : l.Nodup) : (l.mergeSort fun x y => decide (x ≤ y)).Pairwise (· < ·) := by
  have h1 : (l.mergeSort fun x y => decide (x ≤ y)).Pairwise fun x y => decide (x ≤ y) = true :=
    List.pairwise_mergeSort (fun a b c => by simp only [decide_eq_true_eq]; omega) (fun a b => by simp only [Bool.or_eq_true, decide_eq_true_eq]; omega) l
  have h2 : (l.mergeSort fun x y => decide (x ≤ y)).Nodup := (List.mergeSort_perm l _).nodup_iff.2 hn
  have h3 := h1.and (List.nodup_iff_pairwise_ne.1 h2)
  exact h3.imp fun ⟨a, b⟩ => by simp only [decide_eq_true_eq] at a; omega
/-- THE SEARCH's END. -/
theorem BI.done {M : List (List Int)} {s p : Nat} {out : List Int} (h : BI M s p out) (hp : p = out.length + 1) : (out.mergeSort fun x y => decide (x ≤ y)) = behind M s := by
  refine strict_ext (sorted_strict h.nodup) (behind_sorted M s) fun x => ?_
  rw [(List.mergeSort_perm out _).mem_iff, mem_behind]
  constructor
  · intro hx
    have h1 := h.range x hx
    exact ⟨x.toNat, by omega, by omega, h.reach x hx⟩
  · rintro ⟨k, rfl, h1, h2⟩
    rcases h.all hp h2 with e | e
    · omega
    · exact e
/-! ### the marks -/
noncomputable def bmark (i : Nat) (b : List Bool) (c : Int) : List Bool := open Classical in if 0 ≤ c ∧ c < i then b.set c.toNat true else b
structure MI (M : List (List Int)) (s i : Nat) (b : List Bool) : Prop where
  len : b.length = M.length
  base : b[s]? = some true
  reach : ∀ k : Nat, b[k]? = some true → Reach M s k
  closed : ∀ k : Nat, i ≤ k → b[k]? = some true → ∀ l, M[k]? = some l → ∀ c : Nat, (c : Int) ∈ l → c < k → b[c]? = some true
theorem MI.init {M : List (List Int)} {s : Nat} (hs : s < M.length) : MI M s (s + 1) ((List.replicate M.length false).set s true) := by
  have key : ∀ k : Nat, ((List.replicate M.length false).set s true)[k]? = some true → k = s := by
    intro k hk
    rw [List.getElem?_set] at hk
    split at hk
    · rename_i e; exact e.symm
    · rw [List.getElem?_replicate] at hk
      split at hk <;> simp at hk
  refine ⟨by simp, ?_, ?_, ?_⟩
  · rw [List.getElem?_set_self (by simpa using hs)]
  · intro k hk; rw [key k hk]; exact .base
  · intro k hi hk; have := key k hk; omega
theorem mark_len (i : Nat) (b : List Bool) (c : Int) : (bmark i b c).length = b.length := by
  unfold bmark; split <;> simp
theorem marks_len (i : Nat) : ∀ (l : List Int) (b : List Bool), (l.foldl (bmark i) b).length = b.length
  | [], _ => rfl
  | c :: l, b => by rw [List.foldl_cons, marks_len i l, mark_len]
theorem mark_high {i k : Nat} (h : i ≤ k) (b : List Bool) (c : Int) : (bmark i b c)[k]? = b[k]? := by
  unfold bmark
  split
  · rw [List.getElem?_set_ne (by omega)]
  · rfl
theorem marks_high {i k : Nat} (h : i ≤ k) : ∀ (l : List Int) (b : List Bool), (l.foldl (bmark i) b)[k]? = b[k]?
  | [], _ => rfl
  | c :: l, b => by rw [List.foldl_cons, marks_high h l, mark_high h]
theorem mark_get {i : Nat} {b : List Bool} {c : Int} {k : Nat} (hi : i ≤ b.length) : (bmark i b c)[k]? = some true ↔ b[k]? = some true ∨ (c = k ∧ k < i) := by
  unfold bmark
  split
  · rename_i hc
    rw [List.getElem?_set]
    split
    · rename_i e
      rw [if_pos (by omega)]
      constructor
      · intro _; exact .inr ⟨by omega, by omega⟩
      · intro _; rfl
    · rename_i e
      constructor
      · intro h; exact .inl h
      · rintro (h | ⟨h1, h2⟩)
        · exact h
        · exfalso; apply e; omega
  · rename_i hc
    constructor
    · intro h; exact .inl h
    · rintro (h | ⟨h1, h2⟩)
      · exact h
      · exfalso; apply hc; omega
theorem marks_get {i : Nat} : ∀ {l : List Int} {b : List Bool} {k : Nat}, i ≤ b.length → ((l.foldl (bmark i) b)[k]? = some true ↔ b[k]? = some true ∨ ((k : Int) ∈ l ∧ k < i))
  | [], b, k, _ => by simp
  | c :: l, b, k, hi => by
    rw [List.foldl_cons, marks_get (by rw [mark_len]; exact hi), mark_get hi, List.mem_cons]
    constructor
    · rintro ((h | ⟨h1, h2⟩) | ⟨h1, h2⟩)
      · exact .inl h
      · exact .inr ⟨.inl h1.symm, h2⟩
      · exact .inr ⟨.inr h1, h2⟩
    · rintro (h | ⟨h1 | h1, h2⟩)
      · exact .inl (.inl h)
      · exact .inl (.inr ⟨h1.symm, h2⟩)
      · exact .inr ⟨h1, h2⟩
/-- one number's edges are marked, where it is marked itself -/
theorem MI.step {M : List (List Int)} {s i : Nat} {b : List Bool} (h : MI M s (i + 1) b) {L : List Int} (hL : M[i]? = some L) {v : Bool} (hv : b[i]? = some v) : MI M s i (if v = true then L.foldl (bmark i) b else b) := by
  have hi : i < M.length := (List.getElem?_eq_some_iff.1 hL).1
  cases v with
  | false =>
    simp only [Bool.false_eq_true, if_false]
    refine ⟨h.len, h.base, h.reach, fun k hk hb => ?_⟩
    by_cases e : k = i
    · subst e; rw [hv] at hb; cases hb
    · exact h.closed k (by omega) hb
  | true =>
    simp only [if_true]
    have hib : i ≤ b.length := by rw [h.len]; omega
    refine ⟨by rw [marks_len]; exact h.len, (marks_get hib).2 (.inl h.base), ?_, ?_⟩
    · intro k hk
      rcases (marks_get hib).1 hk with hk | ⟨h1, h2⟩
      · exact h.reach k hk
      · exact .step (h.reach i hv) hL h1 h2
    · intro k hk hb l hl c hc hck
      rw [marks_high hk] at hb
      rw [marks_get hib]
      by_cases e : k = i
      · subst e
        rw [hL] at hl
        cases hl
        exact .inr ⟨hc, hck⟩
      · exact .inl (h.closed k (by omega) hb l hl c hc hck)
theorem MI.done {M : List (List Int)} {s : Nat} {b : List Bool} (h : MI M s 0 b) (k : Nat) : b[k]? = some true ↔ Reach M s k := by
  constructor
  · exact h.reach k
  · intro hk
    induction hk with
    | base => exact h.base
    | step hr hM hc hlt ih => exact h.closed _ (Nat.zero_le _) ih _ hM _ hc hlt
/-- the marks, read upwards -/
noncomputable def readUp (b : List Bool) (i : Nat) : List Int := ((List.range i).filter fun k => b[k]? == some true).map Int.ofNat
theorem readUp_succ (b : List Bool) (i : Nat) : readUp b (i + 1) = if b[i]? = some true then readUp b i ++ [(i : Int)] else readUp b i := by
  unfold readUp
  rw [List.range_succ, List.filter_append, List.map_append]
  split
  · rename_i h; simp [h]
  · rename_i h
    have : (b[i]? == some true) = false := by simpa using h
    simp [this]
theorem MI.read {M : List (List Int)} {s : Nat} {b : List Bool} (h : MI M s 0 b) : readUp b s = behind M s := by
  unfold readUp behind
  congr 1
  refine List.filter_congr fun k _ => ?_
  rw [Bool.eq_iff_iff, dec_iff, ← h.done k]
  simp
end Go.Ai
