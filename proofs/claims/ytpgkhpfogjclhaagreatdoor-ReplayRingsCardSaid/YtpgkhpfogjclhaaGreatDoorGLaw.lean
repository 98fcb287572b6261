/- A part of the proof of the law ReplayRings. CONDITIONS: those that each theorem names. -/
import Derived.Test.YtpgkhpfogjclhaaGreatDoorLL
/-! Rings and orders of edges: the searches, the marks and the counts tell the same. -/
namespace Go.Ai
open Go
/-! ### edges -/
def okE (n : Nat) (e : Int × Int) : Prop := 0 ≤ e.1 ∧ e.1 < n ∧ 0 ≤ e.2 ∧ e.2 < n
def Ed (n : Nat) (E : List (Int × Int)) (u v : Nat) : Prop := ((u : Int), (v : Int)) ∈ E ∧ u < n ∧ v < n
inductive Pa (R : Nat → Nat → Prop) : Nat → Nat → Prop where
  | one {a b : Nat} : R a b → Pa R a b
  | more {a b c : Nat} : Pa R a b → R b c → Pa R a c
theorem Pa.trans {R : Nat → Nat → Prop} {a b c : Nat} (h : Pa R a b) (k : Pa R b c) : Pa R a c := by
  induction k with
  | one r => exact .more h r
  | more _ r ih => exact .more ih r
theorem Pa.head {R : Nat → Nat → Prop} {a b c : Nat} (h : R a b) (k : Pa R b c) : Pa R a c := Pa.trans (.one h) k
theorem Pa.lt {n : Nat} {E : List (Int × Int)} {a b : Nat} (h : Pa (Ed n E) a b) : a < n ∧ b < n := by
  induction h with
  | one r => exact ⟨r.2.1, r.2.2⟩
  | more _ r ih => exact ⟨ih.1, r.2.2⟩
noncomputable def ringsL (n : Nat) (E : List (Int × Int)) : List Int := ((List.range n).filter fun i => dec (Pa (Ed n E) i i)).map Int.ofNat
/-! ### the lists of a graph -/
noncomputable def outs (n : Nat) (E : List (Int × Int)) (u : Nat) : List Int := (E.filter fun e => dec (okE n e ∧ e.1 = u)).map (·.2)
noncomputable def gOf (n : Nat) (E : List (Int × Int)) : List (List Int) := (List.range n).map (outs n E)
theorem gOf_len (n : Nat) (E : List (Int × Int)) : (gOf n E).length = n := by simp [gOf]
theorem gOf_get {n : Nat} {E : List (Int × Int)} {u : Nat} (h : u < n) : (gOf n E)[u]? = some (outs n E u) := by simp [gOf, h]
theorem mem_outs {n : Nat} {E : List (Int × Int)} {u : Nat} {x : Int} : x ∈ outs n E u ↔ ∃ v : Nat, x = v ∧ Ed n E u v := by
  unfold outs
  rw [List.mem_map]
  constructor
  · rintro ⟨e, he, rfl⟩
    obtain ⟨h1, h2⟩ := List.mem_filter.1 he
    obtain ⟨⟨a1, a2, a3, a4⟩, a5⟩ := dec_iff.1 h2
    refine ⟨e.2.toNat, by omega, ?_, by omega, by omega⟩
    rw [show ((e.2.toNat : Nat) : Int) = e.2 by omega, ← a5]
    exact h1
  · rintro ⟨v, rfl, h1, h2, h3⟩
    exact ⟨(u, v), List.mem_filter.2 ⟨h1, dec_iff.2 ⟨⟨by simp, by simp; omega, by simp, by simp; omega⟩, rfl⟩⟩, rfl⟩
theorem outs_app (n : Nat) (E : List (Int × Int)) (e : Int × Int) (u : Nat) : outs n (E ++ [e]) u = if dec (okE n e ∧ e.1 = u) = true then outs n E u ++ [e.2] else outs n E u := by
  unfold outs
  rw [List.filter_append, List.map_append]
  cases hd : dec (okE n e ∧ e.1 = u) <;> simp [hd]
theorem outs_len (n : Nat) (E : List (Int × Int)) (u : Nat) : (outs n E u).length ≤ E.length := by
  unfold outs
  rw [List.length_map]
  exact List.length_filter_le _ _
theorem gOf_hit {n : Nat} {E : List (Int × Int)} {e : Int × Int} {u : Nat} (hu : e.1 = u) (hok : okE n e) : gOf n (E ++ [e]) = (gOf n E).set u (outs n E u ++ [e.2]) := by
  apply List.ext_getElem?
  intro k
  rw [List.getElem?_set]
  by_cases hk : k < n
  · rw [gOf_get hk]
    by_cases huk : u = k
    · subst huk
      rw [if_pos rfl, if_pos (by rw [gOf_len]; exact hk), outs_app, if_pos (dec_t ⟨hok, hu⟩)]
    · rw [if_neg huk, gOf_get hk, outs_app, if_neg]
      rw [dec_iff]
      rintro ⟨_, h⟩
      omega
  · have h1 : (gOf n (E ++ [e]))[k]? = none := List.getElem?_eq_none (by rw [gOf_len]; omega)
    have h2 : (gOf n E)[k]? = none := List.getElem?_eq_none (by rw [gOf_len]; omega)
    rw [h1, h2]
    split
    · rw [if_neg (by rw [gOf_len]; omega)]
    · rfl
theorem gOf_miss {n : Nat} {E : List (Int × Int)} {e : Int × Int} (hok : ¬ okE n e) : gOf n (E ++ [e]) = gOf n E := by
  unfold gOf
  refine List.map_congr_left fun u _ => ?_
  rw [outs_app, if_neg]
  rw [dec_iff]
  exact fun h => hok h.1
theorem gOf_nil (n : Nat) : gOf n [] = List.replicate n [] := by
  unfold gOf
  apply List.ext_getElem?
  intro k
  rw [List.getElem?_map, List.getElem?_replicate]
  by_cases hk : k < n
  · rw [if_pos hk, List.getElem?_range hk]; rfl
  · rw [if_neg hk, List.getElem?_eq_none (by simpa using hk)]; rfl
/-! ### what is to be looked at yet -/
def rest : List Bool → List (List Int) → Nat
  | b :: bs, g :: gs => (if b = true then 0 else g.length) + rest bs gs
  | _, _ => 0
theorem rest_set : ∀ {b : List Bool} {G : List (List Int)} {k : Nat} {g : List Int}, b[k]? = some false → G[k]? = some g → rest (b.set k true) G + g.length = rest b G
  | [], _, k, g, h, _ => by simp at h
  | _ :: _, [], k, g, _, h => by simp at h
  | b :: bs, x :: gs, 0, g, h, h2 => by
    simp at h h2
    subst h h2
    simp [rest]; omega
  | b :: bs, x :: gs, k + 1, g, h, h2 => by
    have ih := rest_set (b := bs) (G := gs) (k := k) (g := g) (by simpa using h) (by simpa using h2)
    simp only [List.set_cons_succ, rest]
    omega
theorem rest_le : ∀ (b : List Bool) (G : List (List Int)), rest b G ≤ (G.map List.length).sum
  | [], _ => by simp [rest]
  | _ :: _, [] => by simp [rest]
  | b :: bs, g :: gs => by
    have := rest_le bs gs
    simp only [rest, List.map_cons, List.sum_cons]
    split <;> omega
theorem sum_map_le {α : Type} {f : α → Nat} {m : Nat} : ∀ {l : List α}, (∀ x ∈ l, f x ≤ m) → (l.map f).sum ≤ l.length * m
  | [], _ => by simp
  | x :: l, h => by
    have h1 := h x List.mem_cons_self
    have h2 := sum_map_le (l := l) fun y hy => h y (List.mem_cons_of_mem _ hy)
    simp only [List.map_cons, List.sum_cons, List.length_cons, Nat.add_mul]
    omega
theorem gOf_sum (n : Nat) (E : List (Int × Int)) : ((gOf n E).map List.length).sum ≤ n * E.length := by
  have := sum_map_le (l := gOf n E) (f := List.length) (m := E.length) fun x hx => by
    obtain ⟨u, _, rfl⟩ := List.mem_map.1 hx
    exact outs_len n E u
  rwa [gOf_len] at this
/-! ### the search for a ring -/
structure QI (n : Nat) (E : List (Int × Int)) (i : Nat) (b : List Bool) (look : List Int) : Prop where
  len : b.length = n
  rng : ∀ x ∈ look, ∃ k : Nat, x = k ∧ k < n ∧ Pa (Ed n E) i k
  seen : ∀ k : Nat, b[k]? = some true → Pa (Ed n E) i k
  start : ∀ v, Ed n E i v → b[v]? = some true ∨ (v : Int) ∈ look
  closed : ∀ k v, b[k]? = some true → Ed n E k v → b[v]? = some true ∨ (v : Int) ∈ look
theorem QI.init (n : Nat) (E : List (Int × Int)) (i : Nat) : QI n E i (List.replicate n false) (outs n E i) := by
  have hf : ∀ k : Nat, ¬ (List.replicate n false)[k]? = some true := by
    intro k h
    rw [List.getElem?_replicate] at h
    split at h <;> simp at h
  refine ⟨by simp, ?_, fun k h => absurd h (hf k), ?_, fun k v h => absurd h (hf k)⟩
  · intro x hx
    obtain ⟨v, rfl, h⟩ := mem_outs.1 hx
    exact ⟨v, rfl, h.2.2, .one h⟩
  · intro v h
    exact .inr (mem_outs.2 ⟨v, rfl, h⟩)
theorem QI.old {n : Nat} {E : List (Int × Int)} {i k : Nat} {b : List Bool} {look : List Int} (h : QI n E i b ((k : Int) :: look)) (hk : b[k]? = some true) : QI n E i b look := by
  have key : ∀ v : Nat, (b[v]? = some true ∨ (v : Int) ∈ (k : Int) :: look) → b[v]? = some true ∨ (v : Int) ∈ look := by
    rintro v (h1 | h1)
    · exact .inl h1
    · rcases List.mem_cons.1 h1 with e | e
      · have : v = k := by omega
        subst this; exact .inl hk
      · exact .inr e
  exact ⟨h.len, fun x hx => h.rng x (List.mem_cons_of_mem _ hx), h.seen, fun v hv => key v (h.start v hv), fun j v hj hv => key v (h.closed j v hj hv)⟩
theorem set_true {b : List Bool} {k v : Nat} (hk : k < b.length) : (b.set k true)[v]? = some true ↔ v = k ∨ b[v]? = some true := by
  rw [List.getElem?_set]
  by_cases e : k = v
  · subst e; simp [hk]
  · rw [if_neg e]
    constructor
    · exact .inr
    · rintro (h | h)
      · exact absurd h.symm e
      · exact h
theorem QI.new {n : Nat} {E : List (Int × Int)} {i k : Nat} {b : List Bool} {look : List Int} (h : QI n E i b ((k : Int) :: look)) (hk : k < n) : QI n E i (b.set k true) (look ++ outs n E k) := by
  have hkb : k < b.length := by rw [h.len]; exact hk
  obtain ⟨k', e, _, hpk⟩ := h.rng k List.mem_cons_self
  have : k = k' := by omega
  subst this
  have key : ∀ v : Nat, (b[v]? = some true ∨ (v : Int) ∈ (k : Int) :: look) → (b.set k true)[v]? = some true ∨ (v : Int) ∈ look ++ outs n E k := by
    rintro v (h1 | h1)
    · exact .inl ((set_true hkb).2 (.inr h1))
    · rcases List.mem_cons.1 h1 with e | e
      · have : v = k := by omega
        exact .inl ((set_true hkb).2 (.inl this))
      · exact .inr (List.mem_append_left _ e)
  refine ⟨by simpa using h.len, ?_, ?_, fun v hv => key v (h.start v hv), ?_⟩
  · intro x hx
    rcases List.mem_append.1 hx with hx | hx
    · exact h.rng x (List.mem_cons_of_mem _ hx)
    · obtain ⟨v, rfl, hv⟩ := mem_outs.1 hx
      exact ⟨v, rfl, hv.2.2, .more hpk hv⟩
  · intro j hj
    rcases (set_true hkb).1 hj with rfl | hj
    · exact hpk
    · exact h.seen j hj
  · intro j v hj hv
    rcases (set_true hkb).1 hj with rfl | hj
    · exact .inr (List.mem_append_right _ (mem_outs.2 ⟨v, rfl, hv⟩))
    · exact key v (h.closed j v hj hv)
/-- THE SEARCH's END: nothing to be looked at, or the ring is found -/
theorem QI.done {n : Nat} {E : List (Int × Int)} {i : Nat} {b : List Bool} {look : List Int} (h : QI n E i b look) (he : look = [] ∨ b[i]? = some true) : b[i]? = some true ↔ Pa (Ed n E) i i := by
  constructor
  · exact h.seen i
  · intro hp
    rcases he with rfl | he
    · have all : ∀ v, Pa (Ed n E) i v → b[v]? = some true := by
        intro v hv
        induction hv with
        | one r => rcases h.start _ r with h | h; exact h; cases h
        | more _ r ih => rcases h.closed _ _ ih r with h | h; exact h; cases h
      exact all i hp
    · exact he
/-! ### the marks -/
structure RI (n : Nat) (E : List (Int × Int)) (s : Nat) (b : List Bool) : Prop where
  len : b.length = n
  reach : ∀ k : Nat, b[k]? = some true → Pa (Ed n E) s k
def shut (n : Nat) (s : Nat) (b : List Bool) (e : Int × Int) : Prop := okE n e → (e.1 = s ∨ b[e.1.toNat]? = some true) → b[e.2.toNat]? = some true
theorem RI.init (n : Nat) (E : List (Int × Int)) (s : Nat) : RI n E s (List.replicate n false) := by
  refine ⟨by simp, fun k h => ?_⟩
  rw [List.getElem?_replicate] at h
  split at h <;> simp at h
theorem RI.mark {n : Nat} {E : List (Int × Int)} {s : Nat} {b : List Bool} (h : RI n E s b) (hs : s < n) {e : Int × Int} (he : e ∈ E) (hok : okE n e) (hf : e.1 = s ∨ b[e.1.toNat]? = some true) : RI n E s (b.set e.2.toNat true) := by
  obtain ⟨h1, h2, h3, h4⟩ := hok
  have hr : Ed n E e.1.toNat e.2.toNat := ⟨by rw [show ((e.1.toNat : Nat) : Int) = e.1 by omega, show ((e.2.toNat : Nat) : Int) = e.2 by omega]; exact he, by omega, by omega⟩
  refine ⟨by simpa using h.len, fun k hk => ?_⟩
  rcases (set_true (by rw [h.len]; omega)).1 hk with rfl | hk
  · rcases hf with hf | hf
    · rw [hf] at hr
      simp only [Int.toNat_natCast] at hr
      exact .one hr
    · exact .more (h.reach _ hf) hr
  · exact h.reach k hk
theorem RI.done {n : Nat} {E : List (Int × Int)} {s : Nat} {b : List Bool} (h : RI n E s b) (hc : ∀ e ∈ E, shut n s b e) (k : Nat) : b[k]? = some true ↔ Pa (Ed n E) s k := by
  constructor
  · exact h.reach k
  · intro hp
    have one : ∀ u v, Ed n E u v → (u = s ∨ b[u]? = some true) → b[v]? = some true := by
      intro u v hr hu
      have := hc _ hr.1 ⟨by simp, by simp; exact hr.2.1, by simp, by simp; exact hr.2.2⟩ (by
        rcases hu with rfl | hu
        · exact .inl rfl
        · exact .inr (by simpa using hu))
      simpa using this
    induction hp with
    | one r => exact one _ _ r (.inl rfl)
    | more _ r ih => exact one _ _ r (.inr ih)
/-- how many are not marked -/
def falses (b : List Bool) : Nat := (b.filter (!·)).length
theorem falses_set : ∀ {b : List Bool} {k : Nat}, b[k]? = some false → falses (b.set k true) + 1 = falses b
  | [], k, h => by simp at h
  | x :: b, 0, h => by simp at h; subst h; simp [falses]
  | x :: b, k + 1, h => by
    have := falses_set (b := b) (k := k) (by simpa using h)
    cases x <;> simp only [falses, List.set_cons_succ, List.filter_cons, Bool.not_true, Bool.not_false, if_true, List.length_cons, Bool.false_eq_true, if_false] at this ⊢ <;> omega
theorem falses_le (b : List Bool) : falses b ≤ b.length := List.length_filter_le _ _
/-! ### the order -/
def free (n : Nat) (E : List (Int × Int)) (D : List Bool) (v : Nat) : Prop := D[v]? = some false ∧ ∀ u, Ed n E u v → D[u]? = some true
noncomputable def nextF (n : Nat) (E : List (Int × Int)) (D : List Bool) : Option Nat := (List.range n).find? fun v => dec (free n E D v)
/-- after so many steps: what is done, and the order; none: it cannot go on -/
noncomputable def ordN (n : Nat) (E : List (Int × Int)) : Nat → Option (List Bool × List Int)
  | 0 => some (List.replicate n false, [])
  | k + 1 => match ordN n E k with
    | some (D, o) => match nextF n E D with
      | some v => some (D.set v true, o ++ [(v : Int)])
      | none => none
    | none => none
theorem ordN_none {n : Nat} {E : List (Int × Int)} {k : Nat} (h : ordN n E k = none) : ∀ j, ordN n E (k + j) = none
  | 0 => h
  | j + 1 => by
    have := ordN_none h j
    show ordN n E (k + j + 1) = none
    simp only [ordN, this]
structure OI (n : Nat) (E : List (Int × Int)) (k : Nat) (D : List Bool) (o : List Int) : Prop where
  len : D.length = n
  size : o.length = k
  left : falses D + k = n
  pred : ∀ u v, D[v]? = some true → Ed n E u v → D[u]? = some true
  noring : ∀ v, D[v]? = some true → ¬ Pa (Ed n E) v v
  low : ∀ x ∈ o, 0 ≤ x ∧ x < n
theorem nextF_some {n : Nat} {E : List (Int × Int)} {D : List Bool} {v : Nat} (h : nextF n E D = some v) : v < n ∧ free n E D v ∧ ∀ w, w < v → ¬ free n E D w := by
  unfold nextF at h
  have h1 := List.find?_some h
  have h2 := List.mem_of_find?_eq_some h
  refine ⟨List.mem_range.1 h2, dec_iff.1 h1, fun w hw hf => ?_⟩
  obtain ⟨as, bs, e, hall⟩ := (List.find?_eq_some_iff_append.1 h).2
  have hwin : w ∈ as := by
    have hr : (List.range n)[w]? = some w := List.getElem?_range (by have := List.mem_range.1 h2; omega)
    have hv : as.length = v := by
      have hv1 : (List.range n)[as.length]? = some v := by rw [e]; simp
      have hl := (List.getElem?_eq_some_iff.1 hv1).1
      rw [List.getElem?_range (by simpa using hl)] at hv1
      exact Option.some.inj hv1
    rw [e, List.getElem?_append_left (by omega)] at hr
    exact List.mem_of_getElem? hr
  have := hall w hwin
  rw [dec_t hf] at this
  simp at this
theorem nextF_none {n : Nat} {E : List (Int × Int)} {D : List Bool} (h : nextF n E D = none) : ∀ v, v < n → ¬ free n E D v := by
  intro v hv hf
  have := List.find?_eq_none.1 h v (List.mem_range.2 hv)
  rw [dec_t hf] at this
  simp at this
theorem nextF_is {n : Nat} {E : List (Int × Int)} {D : List Bool} {v : Nat} (hv : v < n) (hf : free n E D v) (hl : ∀ w, w < v → ¬ free n E D w) : nextF n E D = some v := by
  cases h : nextF n E D with
  | none => exact absurd hf (nextF_none h v hv)
  | some w =>
    obtain ⟨h1, h2, h3⟩ := nextF_some h
    rcases Nat.lt_trichotomy v w with h4 | h4 | h4
    · exact absurd hf (h3 v h4)
    · rw [h4]
    · exact absurd h2 (hl w h4)
theorem nextF_not {n : Nat} {E : List (Int × Int)} {D : List Bool} (hl : ∀ w, w < n → ¬ free n E D w) : nextF n E D = none := by
  cases h : nextF n E D with
  | none => rfl
  | some w => obtain ⟨h1, h2, _⟩ := nextF_some h; exact absurd h2 (hl w h1)
theorem ordN_inv {n : Nat} {E : List (Int × Int)} : ∀ {k : Nat} {D : List Bool} {o : List Int}, ordN n E k = some (D, o) → OI n E k D o
  | 0, D, o, h => by
    simp only [ordN, Option.some.injEq, Prod.mk.injEq] at h
    obtain ⟨rfl, rfl⟩ := h
    have hf : ∀ k : Nat, ¬ (List.replicate n false)[k]? = some true := by
      intro k h
      rw [List.getElem?_replicate] at h
      split at h <;> simp at h
    exact ⟨by simp, rfl, by simp [falses], fun u v h => absurd h (hf v), fun v h => absurd h (hf v), by simp⟩
  | k + 1, D, o, h => by
    simp only [ordN] at h
    split at h
    · rename_i D0 o0 h0
      have ih := ordN_inv h0
      split at h
      · rename_i v hv
        simp only [Option.some.injEq, Prod.mk.injEq] at h
        obtain ⟨rfl, rfl⟩ := h
        obtain ⟨h1, ⟨h2, h3⟩, _⟩ := nextF_some hv
        have hvl : v < D0.length := by rw [ih.len]; exact h1
        have hfs := falses_set h2
        have hleft := ih.left
        refine ⟨by simpa using ih.len, by simp [ih.size], by omega, ?_, ?_, ?_⟩
        · intro u w hw hr
          rcases (set_true hvl).1 hw with rfl | hw
          · exact (set_true hvl).2 (.inr (h3 u hr))
          · exact (set_true hvl).2 (.inr (ih.pred u w hw hr))
        · intro w hw hp
          have back : ∀ a c, Pa (Ed n E) a c → D0[c]? = some true → D0[a]? = some true := by
            intro a c hac
            induction hac with
            | one r => exact fun h => ih.pred _ _ h r
            | more _ r ih2 => exact fun h => ih2 (ih.pred _ _ h r)
          rcases (set_true hvl).1 hw with rfl | hw
          · have hin : D0[w]? = some true := by
              cases hp with
              | one r => exact h3 _ r
              | more hq r => exact back _ _ hq (h3 _ r)
            rw [h2] at hin; cases hin
          · exact ih.noring w hw hp
        · intro x hx
          rcases List.mem_append.1 hx with hx | hx
          · exact ih.low x hx
          · rw [List.mem_singleton] at hx; subst hx; omega
      · cases h
    · cases h
/-- where each has one ahead of it among so many, there is a ring -/
theorem ring_of {R : Nat → Nat → Prop} {n : Nat} {U : Nat → Prop} (hU : ∀ u, U u → u < n) (hp : ∀ u, U u → ∃ p, U p ∧ R p u) {u0 : Nat} (h0 : U u0) : ∃ u, U u ∧ Pa R u u := by
  refine Classical.byContradiction fun hno => ?_
  have irr : ∀ u, U u → ¬ Pa R u u := fun u hu hr => hno ⟨u, hu, hr⟩
  have key : ∀ c u, U u → ((List.range n).filter fun w => dec (U w ∧ Pa R w u)).length = c → False := by
    intro c
    induction c using Nat.strongRecOn with
    | _ c ih =>
      intro u hu hc
      obtain ⟨p, hpU, hpr⟩ := hp u hu
      refine ih ((List.range n).filter fun w => dec (U w ∧ Pa R w p)).length ?_ p hpU rfl
      rw [← hc]
      have hsub : ∀ l : List Nat, (l.filter fun w => dec (U w ∧ Pa R w p)).length ≤ (l.filter fun w => dec (U w ∧ Pa R w u)).length ∧
          (p ∈ l → (l.filter fun w => dec (U w ∧ Pa R w p)).length < (l.filter fun w => dec (U w ∧ Pa R w u)).length) := by
        intro l
        induction l with
        | nil => simp
        | cons x l ihl =>
          simp only [List.filter_cons]
          by_cases hx : U x ∧ Pa R x p
          · have hx2 : U x ∧ Pa R x u := ⟨hx.1, .more hx.2 hpr⟩
            rw [dec_t hx, dec_t hx2]
            simp only [if_true, List.length_cons]
            refine ⟨by have := ihl.1; omega, fun hm => ?_⟩
            rcases List.mem_cons.1 hm with rfl | hm
            · exact absurd hx.2 (irr _ hpU)
            · have := ihl.2 hm; omega
          · rw [dec_f hx]
            simp only [Bool.false_eq_true, if_false]
            by_cases hx2 : U x ∧ Pa R x u
            · rw [dec_t hx2]
              simp only [if_true, List.length_cons]
              have := ihl.1
              exact ⟨by omega, fun _ => by omega⟩
            · rw [dec_f hx2]
              simp only [Bool.false_eq_true, if_false]
              refine ⟨ihl.1, fun hm => ?_⟩
              rcases List.mem_cons.1 hm with rfl | hm
              · exact absurd ⟨hpU, .one hpr⟩ hx2
              · exact ihl.2 hm
      exact (hsub (List.range n)).2 (List.mem_range.2 (hU p hpU))
  exact key _ u0 h0 rfl
theorem falses_pos : ∀ {b : List Bool}, 0 < falses b → ∃ k : Nat, b[k]? = some false
  | [], h => by simp [falses] at h
  | x :: b, h => by
    cases x with
    | false => exact ⟨0, rfl⟩
    | true =>
      obtain ⟨k, hk⟩ := falses_pos (b := b) (by simpa [falses] using h)
      exact ⟨k + 1, by simpa using hk⟩
/-- no ring: it goes on -/
theorem next_of_noring {n : Nat} {E : List (Int × Int)} {k : Nat} {D : List Bool} {o : List Int} (h : OI n E k D o) (hk : k < n) (hn : ringsL n E = []) : ∃ v, nextF n E D = some v := by
  cases hx : nextF n E D with
  | some v => exact ⟨v, rfl⟩
  | none =>
    exfalso
    have hno := nextF_none hx
    obtain ⟨u0, hu0⟩ := falses_pos (b := D) (by have := h.left; omega)
    obtain ⟨u, hu, hr⟩ := ring_of (R := Ed n E) (n := n) (U := fun u => D[u]? = some false) (fun u hu => by
      have := (List.getElem?_eq_some_iff.1 hu).1
      rw [h.len] at this; exact this) (fun u hu => by
      have hlt : u < n := by
        have := (List.getElem?_eq_some_iff.1 hu).1
        rw [h.len] at this; exact this
      have := hno u hlt
      refine Classical.byContradiction fun hne => this ⟨hu, fun p hp => ?_⟩
      cases hD : D[p]? with
      | none =>
        have := List.getElem?_eq_none_iff.1 hD
        have := hp.2.1
        rw [h.len] at *
        omega
      | some b =>
        cases b with
        | true => rfl
        | false => exact absurd ⟨p, hD, hp⟩ hne) hu0
    have hin : (u : Int) ∈ ringsL n E := List.mem_map.2 ⟨u, List.mem_filter.2 ⟨List.mem_range.2 hr.lt.1, dec_t hr⟩, rfl⟩
    rw [hn] at hin; cases hin
theorem ordN_some {n : Nat} {E : List (Int × Int)} (hn : ringsL n E = []) : ∀ k, k ≤ n → ∃ D o, ordN n E k = some (D, o)
  | 0, _ => ⟨_, _, rfl⟩
  | k + 1, hk => by
    obtain ⟨D, o, h⟩ := ordN_some hn k (by omega)
    obtain ⟨v, hv⟩ := next_of_noring (ordN_inv h) (by omega) hn
    exact ⟨D.set v true, o ++ [(v : Int)], by simp only [ordN, h, hv]⟩
/-- a ring: it cannot come to the end -/
theorem ordN_ring {n : Nat} {E : List (Int × Int)} (hn : ringsL n E ≠ []) : ordN n E n = none := by
  cases h : ordN n E n with
  | none => rfl
  | some x =>
    obtain ⟨D, o⟩ := x
    exfalso
    have hi := ordN_inv h
    apply hn
    refine List.map_eq_nil_iff.2 (List.filter_eq_nil_iff.2 fun u hu hd => ?_)
    have hp := dec_iff.1 hd
    have hf : falses D = 0 := by have := hi.left; omega
    have hu' := List.mem_range.1 hu
    cases hD : D[u]? with
    | none => have := List.getElem?_eq_none_iff.1 hD; rw [hi.len] at this; omega
    | some b =>
      cases b with
      | true => exact hi.noring u hD hp
      | false =>
        have := falses_set hD
        omega
end Go.Ai
