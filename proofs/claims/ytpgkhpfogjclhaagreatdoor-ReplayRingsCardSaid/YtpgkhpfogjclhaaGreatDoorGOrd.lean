/- A part of the proof of the law ReplayRings. CONDITIONS: those that each theorem names. -/
import Derived.Test.YtpgkhpfogjclhaaGreatDoorGRow
/-! The counts of what is ahead. -/
namespace Go.Ai
open Go
variable {P : Program}
def CA (n : Nat) (A : List Int) (c : Nat → Int) : Prop := A.length = n ∧ ∀ v, v < n → A[v]? = some (c v)
theorem CA.add {n k : Nat} {A : List Int} {c c' : Nat → Int} {d : Int} (h : CA n A c) (hk : k < n) (hc : ∀ v, v < n → c' v = c v + if v = k then d else 0) : CA n (A.set k (c k + d)) c' := by
  refine ⟨by simpa using h.1, fun v hv => ?_⟩
  rw [List.getElem?_set, hc v hv]
  by_cases e : k = v
  · subst e; simp [h.1, hk]
  · rw [if_neg e, h.2 v hv, if_neg (fun q => e q.symm), Int.add_zero]
theorem CA.same {n : Nat} {A : List Int} {c c' : Nat → Int} (h : CA n A c) (hc : ∀ v, v < n → c' v = c v) : CA n A c' := ⟨h.1, fun v hv => by rw [hc v hv]; exact h.2 v hv⟩
def cnt (l : List Int) (v : Nat) : Int := (l.count (v : Int) : Nat)
theorem cnt_nil (v : Nat) : cnt [] v = 0 := rfl
theorem cnt_succ {l : List Int} {j k : Nat} (h : l[j]? = some (k : Int)) (v : Nat) : cnt (l.take (j + 1)) v = cnt (l.take j) v + if v = k then 1 else 0 := by
  unfold cnt
  rw [List.take_add_one, h, Option.toList_some, List.count_append, List.count_singleton]
  by_cases e : v = k
  · subst e; simp
  · have : ((k : Int) == (v : Int)) = false := beq_eq_false_iff_ne.2 (by omega)
    rw [this, if_neg e]; simp
theorem cnt_le (l : List Int) (v : Nat) : 0 ≤ cnt l v ∧ cnt l v ≤ l.length := by
  unfold cnt
  have := List.count_le_length (a := (v : Int)) (l := l)
  omega
noncomputable def sumTo (n : Nat) (E : List (Int × Int)) (u v : Nat) : Nat := ((List.range u).map fun w => (outs n E w).count (v : Int)).sum
theorem sumTo_zero (n : Nat) (E : List (Int × Int)) (v : Nat) : sumTo n E 0 v = 0 := rfl
theorem sumTo_succ (n : Nat) (E : List (Int × Int)) (u v : Nat) : (sumTo n E (u + 1) v : Int) = sumTo n E u v + cnt (outs n E u) v := by
  unfold sumTo cnt
  rw [List.range_succ, List.map_append, List.sum_append]
  simp
theorem sumTo_le (n : Nat) (E : List (Int × Int)) (u v : Nat) : sumTo n E u v ≤ u * E.length := by
  have := sum_map_le (l := List.range u) (f := fun w => (outs n E w).count (v : Int)) (m := E.length) fun w _ => Nat.le_trans List.count_le_length (outs_len n E w)
  rwa [List.length_range] at this
noncomputable def ahd (n : Nat) (E : List (Int × Int)) (D : List Bool) (v : Nat) : Nat := ((List.range n).map fun w => if D[w]? = some true then 0 else (outs n E w).count (v : Int)).sum
theorem ahd_start (n : Nat) (E : List (Int × Int)) (v : Nat) : ahd n E (List.replicate n false) v = sumTo n E n v := by
  unfold ahd sumTo
  congr 1
  refine List.map_congr_left fun w _ => ?_
  rw [if_neg]
  rw [List.getElem?_replicate]
  split <;> simp
theorem ahd_le (n : Nat) (E : List (Int × Int)) (D : List Bool) (v : Nat) : ahd n E D v ≤ n * E.length := by
  have := sum_map_le (l := List.range n) (f := fun w => if D[w]? = some true then 0 else (outs n E w).count (v : Int)) (m := E.length) fun w _ => by
    split
    · omega
    · exact Nat.le_trans List.count_le_length (outs_len n E w)
  rwa [List.length_range] at this
theorem ahd_set_aux {n : Nat} {E : List (Int × Int)} {D : List Bool} {u : Nat} (hu : D[u]? = some false) (v : Nat) : ∀ l : List Nat, l.Nodup → (l.map fun w => if (D.set u true)[w]? = some true then 0 else (outs n E w).count (v : Int)).sum + (if u ∈ l then (outs n E u).count (v : Int) else 0) = (l.map fun w => if D[w]? = some true then 0 else (outs n E w).count (v : Int)).sum
  | [], _ => by simp
  | w :: l, hn => by
    have ih := ahd_set_aux (n := n) (E := E) hu v l (List.nodup_cons.1 hn).2
    have hul := (List.getElem?_eq_some_iff.1 hu).1
    simp only [List.map_cons, List.sum_cons]
    by_cases e : u = w
    · subst e
      have h1 : (D.set u true)[u]? = some true := by rw [List.getElem?_set_self hul]
      rw [if_pos h1, if_pos List.mem_cons_self, hu]
      rw [if_neg (List.nodup_cons.1 hn).1] at ih
      simp only [Option.some.injEq, Bool.false_eq_true, if_false]
      omega
    · rw [List.getElem?_set_ne e]
      have h2 : (u ∈ w :: l) ↔ u ∈ l := by simp [e]
      simp only [h2]
      omega
theorem ahd_set {n : Nat} {E : List (Int × Int)} {D : List Bool} {u : Nat} (hu : D[u]? = some false) (hn : u < n) (v : Nat) : (ahd n E (D.set u true) v : Int) = ahd n E D v - cnt (outs n E u) v := by
  have := ahd_set_aux (n := n) (E := E) hu v (List.range n) List.nodup_range
  rw [if_pos (List.mem_range.2 hn)] at this
  unfold ahd cnt
  omega
theorem sum_zero : ∀ {l : List Nat}, l.sum = 0 ↔ ∀ x ∈ l, x = 0
  | [] => by simp
  | x :: l => by
    have := sum_zero (l := l)
    simp only [List.sum_cons, List.mem_cons, forall_eq_or_imp]
    rw [← this]
    omega
theorem ahd_free {n : Nat} {E : List (Int × Int)} {D : List Bool} {v : Nat} (hD : D[v]? = some false) (hv : v < n) : free n E D v ↔ ahd n E D v = 0 := by
  unfold ahd
  rw [sum_zero]
  constructor
  · intro hf x hx
    obtain ⟨u, _, rfl⟩ := List.mem_map.1 hx
    split
    · rfl
    · rename_i hno
      refine List.count_eq_zero.2 fun hm => ?_
      obtain ⟨v', e, hr⟩ := mem_outs.1 hm
      have : v = v' := by omega
      subst this
      exact hno (hf.2 u hr)
  · intro h0
    refine ⟨hD, fun u hu => ?_⟩
    have := h0 _ (List.mem_map.2 ⟨u, List.mem_range.2 hu.2.1, rfl⟩)
    refine Classical.byContradiction fun hno => ?_
    rw [if_neg hno] at this
    exact List.count_eq_zero.1 this (mem_outs.2 ⟨v, rfl, hu⟩)
/-! ### rows of numbers -/
theorem rd_n {A : List Int} {j : Nat} {z : Int} (h : A[j]? = some z) : rdAB (some (aRow (ints A))) (j * 1) 1 = some [.int .i64 z] := rd_a (by rw [ints, List.getElem?_map, h]; rfl)
theorem wr_n {h : Heap} {id : Nat} {A : List Int} {j : Nat} {z : Int} (hj : j < A.length) : wrAB h id (some (aRow (ints A))) (j * 1) [.int .i64 z] = some (hset h id (aRow (ints (A.set j z)))) := by
  rw [wr_a (by rw [ints_len]; exact hj) rfl, ints, ints, List.map_set]
theorem ints_repl (n : Nat) : List.replicate n (AV.int .i64 0) = ints (List.replicate n 0) := by simp [ints]
def Off (k : Nat) (l : AV) : Prop := ∀ b o eo n cap, l = .slice b o eo n cap → b ≠ k
theorem Off.nils {k : Nat} : Off k .nils := fun _ _ _ _ _ e => by cases e
theorem Off.new {k b o eo n : Nat} {cap : Option Nat} (h : b ≠ k) : Off k (.slice b o eo n cap) := fun _ _ _ _ _ e => by cases e; exact h
theorem Off.kill {k : Nat} {l : AV} {h : Heap} (ho : Off k l) : hget (Ai.kill h l) k = hget h k := by
  cases l with
  | slice b o eo n cap => simp only [Ai.kill]; rw [hget_hset, if_neg]; exact fun e => ho _ _ _ _ _ rfl e.symm
  | _ => rfl
theorem IL.setO {h : Heap} {F lc k : Nat} {l : AV} {zs : List Int} {b' : AB} (hi : IL h F lc l zs) (ho : Off k l) : IL (hset h k b') F lc l zs := by
  rcases hi with c | ⟨hp, c, h1, h2, h3⟩
  · exact .inl c
  · refine .inr ⟨hp, c, h1, h2, ?_⟩
    rw [hget_hset, if_neg]
    · exact h3
    · exact fun e => ho _ _ _ _ _ h2 e
theorem IL.off {h : Heap} {F lc k : Nat} {l : AV} {zs : List Int} (hi : IL h F lc l zs) (hk : ∀ c, c < lc → (k = ky F c) = False) : Off k l := by
  intro b o eo n cap e
  rcases hi with ⟨rfl, _⟩ | ⟨hp, c, h1, h2, h3⟩
  · cases e
  · rw [h2] at e; cases e
    intro q
    have := hk c h1
    rw [← q] at this
    simp at this
theorem CA.sub {n k : Nat} {A : List Int} {c c' : Nat → Int} (h : CA n A c) (hk : k < n) (hc : ∀ v, v < n → c' v = c v - if v = k then 1 else 0) : CA n (A.set k (c k - 1)) c' := by
  have := CA.add (d := -1) (c' := c') h hk fun v hv => by rw [hc v hv]; split <;> omega
  rwa [show c k + -1 = c k - 1 by omega] at this
theorem num_atI {A B : Nat} {h : Heap} {a : AV} {zs : List Int} (hl : LstI A B h ksN a (iL zs)) {i : Nat} (hi : i < zs.length) : ∃ b o eo cap, a = .slice b o eo zs.length cap ∧ ky A 0 ≤ b ∧ b < ky B 0 ∧ rdAB (hget h b) (o + i * 1) 1 = some [.int .i64 zs[i]] := by
  obtain ⟨b, o, eo, cap, e, h1, h2, h0, _⟩ := hl.at (i := i) (by rw [iL_len]; exact hi)
  have el : (iL zs)[i]'(by rw [iL_len]; exact hi) = [.int .i64 zs[i]] := by simp [iL]
  rw [el] at h0
  rw [iL_len] at e
  exact ⟨b, o, eo, cap, e, h1, h2, h0⟩
end Go.Ai
