/- A part of the proof of the law ReplayRings. CONDITIONS: those that each theorem names. -/
import Derived.Test.YtpgkhpfogjclhaaGreatDoorLL
/-! Lists that a function grows in blocks of its own. -/
namespace Go.Ai
open Go
variable {P : Program}
def OwnL (h : Heap) (F c es : Nat) (l : AV) (L : List (List AV)) : Prop :=
  ∃ pre : List (List AV), hget h (ky F c) = some (mkRow (pre ++ L).flatten es) ∧ (∀ x ∈ pre ++ L, x.length = es) ∧
    (l = .slice (ky F c) (pre.length * es) pre.length L.length none ∨ ∃ eo, l = .slice (ky F c) (pre.length * es) eo L.length (some L.length))
noncomputable def killQ (h : Heap) : AV → Heap
  | .slice k _ _ _ none => hset h k .dead
  | _ => h
theorem flat_length {L : List (List AV)} {es : Nat} (h : ∀ x ∈ L, x.length = es) : L.flatten.length = L.length * es := (flatten_get h).1
section
variable {h h' : Heap} {F c es : Nat} {l : AV} {L N : List (List AV)}
theorem OwnL.get (hi : OwnL h F c es l L) : ∃ pre : List (List AV), hget h (ky F c) = some (mkRow (pre ++ L).flatten es) := let ⟨pre, h1, _⟩ := hi; ⟨pre, h1⟩
theorem OwnL.move (hi : OwnL h F c es l L) (he : hget h' (ky F c) = hget h (ky F c)) : OwnL h' F c es l L := by
  obtain ⟨pre, h1, h2, h3⟩ := hi
  exact ⟨pre, by rw [he]; exact h1, h2, h3⟩
theorem OwnL.new {cap : Option Nat} (hL : ∀ x ∈ L, x.length = es) (hg : hget h (ky F c) = some (mkRow L.flatten es)) (hc : cap = none ∨ cap = some L.length) : OwnL h F c es (.slice (ky F c) 0 0 L.length cap) L := by
  refine ⟨[], hg, by simpa using hL, ?_⟩
  rcases hc with rfl | rfl
  · left; simp
  · right; exact ⟨0, by simp⟩
/-- the cells of the list, from its place on -/
theorem OwnL.cells (hi : OwnL h F c es l L) : ∃ pre : List (List AV), ∃ eo cap, l = .slice (ky F c) (pre.length * es) eo L.length cap ∧ rdAB (hget h (ky F c)) (pre.length * es) (L.length * es) = some L.flatten := by
  obtain ⟨pre, h1, h2, h3⟩ := hi
  have e1 : pre.flatten.length = pre.length * es := flat_length fun x hx => h2 x (List.mem_append_left _ hx)
  have e2 : L.flatten.length = L.length * es := flat_length fun x hx => h2 x (List.mem_append_right _ hx)
  have hr : rdAB (hget h (ky F c)) (pre.length * es) (L.length * es) = some L.flatten := by
    rw [h1, rdAB_row, if_pos (by rw [List.flatten_append, List.length_append]; omega), List.flatten_append, ← e1, List.drop_append_of_le_length (Nat.le_refl _), List.drop_length, List.nil_append, ← e2, List.take_length]
  rcases h3 with rfl | ⟨eo, rfl⟩
  · exact ⟨pre, _, _, rfl, hr⟩
  · exact ⟨pre, _, _, rfl, hr⟩
theorem OwnL.lst {ks : List CK} (hi : OwnL h F c ks.length l L) (hok : ∀ x ∈ L, cksOk ks x) (hm : L.length ≤ maxLen) : LstP h ks l L := by
  obtain ⟨pre, eo, cap, rfl, hr⟩ := hi.cells
  exact ⟨hok, hm, .inr ⟨_, _, _, _, rfl, fun _ => hr⟩⟩
/-- the first one -/
theorem OwnL.head {x : List AV} (hi : OwnL h F c es l (x :: L)) (hes : x.length = es) : ∃ o eo cap, l = .slice (ky F c) o eo (L.length + 1) cap ∧ rdAB (hget h (ky F c)) (o + 0 * es) es = some x := by
  obtain ⟨pre, eo, cap, rfl, hr⟩ := hi.cells
  refine ⟨_, _, _, rfl, ?_⟩
  have := rdAB_part hr (k := 0) (j := es) (by simp [Nat.add_mul])
  rw [Nat.zero_mul, this, List.drop_zero, List.flatten_cons, ← hes, List.take_append_of_le_length (Nat.le_refl _), List.take_length]
/-- but the first one -/
theorem OwnL.tail {t e : TypeId} {x : List AV} (hu : P.underlying t = some (.slice e)) (hs : sizeT P e = some es) (hi : OwnL h F c es l (x :: L)) : ∃ l', sliceA P t l (some (.int .i64 1)) none none = some l' ∧ OwnL h F c es l' L := by
  obtain ⟨pre, h1, h2, h3⟩ := hi
  have hb : ∀ lim, L.length + 1 ≤ lim → boundsA (L.length + 1) lim (some (.int .i64 1)) none none = some (1, L.length + 1, none) := by
    intro lim hl
    have e1 : Nat.ble 1 (L.length + 1) = true := Nat.ble_eq_true_of_le (by omega)
    have e2 : Nat.ble (L.length + 1) lim = true := Nat.ble_eq_true_of_le hl
    have e3 : natOf (.int .i64 1) = some 1 := rfl
    simp only [boundsA, boundA, e3, e1, e2, Bool.and_self]
  have hpre : (pre ++ [x]) ++ L = pre ++ x :: L := by simp
  rcases h3 with rfl | ⟨eo, rfl⟩
  · refine ⟨_, ?_, pre ++ [x], by rw [hpre]; exact h1, by rw [hpre]; exact h2, .inl rfl⟩
    simp only [sliceA, hu, sliceD, hs, List.length_cons, hb _ (Nat.le_refl _), sliceOpen]
    congr 1
    rw [List.length_append, List.length_singleton]
    have e3 : Nat.add (pre.length * es) (Nat.mul 1 es) = (pre.length + 1) * es := by rw [Nat.add_mul, Nat.one_mul]; show pre.length * es + 1 * es = _; rw [Nat.one_mul]
    rw [e3]; rfl
  · refine ⟨_, ?_, pre ++ [x], by rw [hpre]; exact h1, by rw [hpre]; exact h2, .inr ⟨eo, rfl⟩⟩
    simp only [sliceA, hu, sliceD, hs, List.length_cons, hb _ (Nat.le_refl _), sliceShut]
    congr 1
    rw [List.length_append, List.length_singleton]
    have e3 : Nat.add (pre.length * es) (Nat.mul 1 es) = (pre.length + 1) * es := by rw [Nat.add_mul, Nat.one_mul]; show pre.length * es + 1 * es = _; rw [Nat.one_mul]
    rw [e3]; rfl
/-- APPEND: a new block; the old one is gone, where its room was not known. -/
theorem app_own {t t2 e e2 by' key : Nat} {s : St} {b : AV} (hu : P.underlying t = some (.slice e)) (h2 : P.underlying t2 = some (.slice e2)) (hs : sizeT P e = some es) (hb : bytesT P e = some by') (hz : zeroOk P e es by' = true)
    (hi : OwnL s.h F c es l L) (hsrc : srcCells s.h es b = some (N.length, N.flatten)) (hp : 0 < N.length) (hes : 0 < es) (hN : ∀ x ∈ N, x.length = es) (hc : allCell N.flatten = true) (hn : L.length + N.length ≤ 100000) (hby : by' ≤ 1000) :
    appendA P t t2 key s l b = some (.slice key 0 0 (L ++ N).length none, ⟨hset (killQ s.h l) key (mkRow (L ++ N).flatten es), s.fc⟩) := by
  obtain ⟨pre, h1, hl, h3⟩ := hi
  obtain ⟨n, hnn⟩ : ∃ k, N.length = k + 1 := ⟨N.length - 1, by omega⟩
  have e1 : pre.flatten.length = pre.length * es := flat_length fun x hx => hl x (List.mem_append_left _ hx)
  have e2 : L.flatten.length = L.length * es := flat_length fun x hx => hl x (List.mem_append_right _ hx)
  have hble : Nat.ble ((2 * (L.length + (n + 1)) + 1024) * by') 281474976710656 = true := by
    rw [Nat.ble_eq]; exact Nat.le_trans (Nat.mul_le_mul (by omega : 2 * (L.length + (n + 1)) + 1024 ≤ 201024) hby) (by decide)
  have hrow : (pre ++ L).flatten.length = pre.length * es + L.length * es := by rw [List.flatten_append, List.length_append, e1, e2]
  have hfit : Nat.ble (pre.length * es + (L.length + (n + 1)) * es) (pre ++ L).flatten.length = false := by
    have : ¬ (pre.length * es + (L.length + (n + 1)) * es ≤ (pre ++ L).flatten.length) := by
      rw [hrow, Nat.add_mul L.length]
      have : 0 < (n + 1) * es := Nat.mul_pos (by omega) hes
      omega
    cases hq : Nat.ble (pre.length * es + (L.length + (n + 1)) * es) (pre ++ L).flatten.length with
    | false => rfl
    | true => exact absurd (Nat.le_of_ble_eq_true hq) this
  have hrd : readCells s.h (ky F c) (pre.length * es) (L.length * es) = some L.flatten := by
    rw [readCells_eq, h1, rdAB_row, if_pos (by omega), List.flatten_append, ← e1, List.drop_append_of_le_length (Nat.le_refl _), List.drop_length, List.nil_append, ← e2, List.take_length]
  have hbb : (Nat.beq es es && Nat.beq (pre.length * es) (pre.length * es) && allCell N.flatten) = true := by rw [hc]; simp
  have hno : Nat.ble (L.length + (n + 1)) L.length = false := by
    cases hq : Nat.ble (L.length + (n + 1)) L.length with
    | false => rfl
    | true => have := Nat.le_of_ble_eq_true hq; omega
  rw [hnn] at hsrc
  rw [List.length_append, hnn, List.flatten_append]
  rcases h3 with rfl | ⟨eo, rfl⟩
  · simp only [appendA, hu, h2, hs, hb, hz, hsrc, hble, h1]
    simp only [mkRow, hfit, hbb, hrd, rowOf_mk, St.upd_eq, killQ]
  · simp only [appendA, hu, h2, hs, hb, hz, hsrc, hble, h1]
    simp only [mkRow, hfit, hno, hrd, rowOf_mk, St.upd_eq, killQ]
theorem killQ_get {h : Heap} {k : Nat} (hi : OwnL h F c es l L) {h2 : Heap} (hk : k ≠ ky F c) : hget (killQ h2 l) k = hget h2 k := by
  obtain ⟨pre, _, _, h3⟩ := hi
  rcases h3 with rfl | ⟨eo, rfl⟩
  · simp only [killQ]; rw [hget_hset, if_neg hk]
  · rfl
theorem same_killQ {h0 : Heap} (hw : Wf ⟨h0, F⟩) {h2 : Heap} (hi : OwnL h F c es l L) (hs : SameH h0 h2) : SameH h0 (killQ h2 l) := by
  obtain ⟨pre, _, _, h3⟩ := hi
  rcases h3 with rfl | ⟨eo, rfl⟩
  · exact SameH.hset hw hs (ky_le F c)
  · exact hs
end
end Go.Ai
