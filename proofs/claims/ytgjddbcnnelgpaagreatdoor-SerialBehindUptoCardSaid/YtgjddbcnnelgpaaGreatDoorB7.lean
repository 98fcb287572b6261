/- A part of the proof of the law SerialBehind. CONDITIONS: those that each theorem names. -/
import Derived.Test.YtgjddbcnnelgpaaGreatDoorLL
import Derived.Test.YtgjddbcnnelgpaaGreatDoorRFast
import Derived.Test.YtgjddbcnnelgpaaGreatDoorIMap
import Derived.Test.YtgjddbcnnelgpaaGreatDoorB8
namespace Go.Proofs.YtgjddbcnnelgpaaGreatDoor
open Go Go.Ai
set_option maxRecDepth 100000

/-- the numbers that were found, in a block of their own, and those that are to be looked at, in another -/
def Two (h : Heap) (F lc : Nat) (lo lk : AV) (out : List Int) (ws : List (List AV)) : Prop :=
  ∃ ck, ck < lc ∧ 9 < ck ∧ OwnL h F ck 1 lk ws ∧ ((lo = .nils ∧ out = []) ∨ (0 < out.length ∧ ∃ c, c < lc ∧ 9 < c ∧ c ≠ ck ∧ lo = .slice (ky F c) 0 0 out.length none ∧ hget h (ky F c) = some (mkRow (ints out) 1)))
theorem Two.il {h : Heap} {F lc : Nat} {lo lk : AV} {out : List Int} {ws : List (List AV)} (t : Two h F lc lo lk out ws) : IL h F lc lo out := by
  obtain ⟨ck, h1, h2, h3, h4⟩ := t
  rcases h4 with h4 | ⟨h5, c, h6, h7, h8, h9⟩
  · exact .inl h4
  · exact .inr ⟨h5, c, h6, h9⟩
theorem Two.up {h : Heap} {F lc lc' : Nat} {lo lk : AV} {out : List Int} {ws : List (List AV)} (t : Two h F lc lo lk out ws) (hl : lc ≤ lc') : Two h F lc' lo lk out ws := by
  obtain ⟨ck, h1, h2, h3, h4⟩ := t
  refine ⟨ck, by omega, h2, h3, ?_⟩
  rcases h4 with h4 | ⟨h5, c, h6, h7, h8, h9⟩
  · exact .inl h4
  · exact .inr ⟨h5, c, by omega, h7, h8, h9⟩
/-- new blocks change nothing -/
theorem Two.set {h : Heap} {F lc k : Nat} {b : AB} {lo lk : AV} {out : List Int} {ws : List (List AV)} (t : Two h F lc lo lk out ws) (hk : lc ≤ k ∨ k = 9) : Two (hset h (ky F k) b) F lc lo lk out ws := by
  obtain ⟨ck, h1, h2, h3, h4⟩ := t
  refine ⟨ck, h1, h2, h3.move (by rw [hget_hset, if_neg (by rw [ky_inj]; omega)]), ?_⟩
  rcases h4 with h4 | ⟨h5, c, h6, h7, h8, h9, h10⟩
  · exact .inl h4
  · exact .inr ⟨h5, c, h6, h7, h8, h9, by rw [hget_hset, if_neg (by rw [ky_inj]; omega)]; exact h10⟩
theorem Two.kill_lo {h h' : Heap} {F lc k : Nat} {lo lk : AV} {out : List Int} {ws : List (List AV)} (t : Two h F lc lo lk out ws) (hk : lc ≤ k ∨ k = 9) : hget (kill h' lo) (ky F k) = hget h' (ky F k) := by
  obtain ⟨ck, h1, h2, h3, h4⟩ := t
  rcases h4 with ⟨rfl, _⟩ | ⟨h5, c, h6, h7, h8, rfl, h10⟩
  · rfl
  · simp only [kill]; rw [hget_hset, if_neg (by rw [ky_inj]; omega)]
/-- the found ones grow -/
theorem Two.more {h h' : Heap} {F lc k : Nat} {x : Int} {lo lk : AV} {out : List Int} {ws : List (List AV)} (t : Two h F lc lo lk out ws) (hk : lc ≤ k) (hh : ∀ c, c < lc → hget h' (ky F c) = hget h (ky F c)) :
    Two (hset (kill h' lo) (ky F k) (mkRow (ints (out ++ [x])) 1)) F (k + 1) (.slice (ky F k) 0 0 (out ++ [x]).length none) lk (out ++ [x]) ws := by
  obtain ⟨ck, h1, h2, h3, h4⟩ := t
  have hne : ∀ c, c < lc → hget (hset (kill h' lo) (ky F k) (mkRow (ints (out ++ [x])) 1)) (ky F c) = hget (kill h' lo) (ky F c) := fun c hc => by rw [hget_hset, if_neg (by rw [ky_inj]; omega)]
  refine ⟨ck, by omega, h2, h3.move ?_, .inr ⟨by rw [List.length_append]; exact Nat.succ_pos _, k, by omega, by omega, by omega, rfl, by rw [hget_hset, if_pos rfl]⟩⟩
  rw [hne ck h1]
  rcases h4 with ⟨rfl, _⟩ | ⟨h5, c, h6, h7, h8, rfl, h10⟩
  · exact hh ck h1
  · simp only [kill]; rw [hget_hset, if_neg (by rw [ky_inj]; omega)]; exact hh ck h1
theorem Two.look {h : Heap} {F lc : Nat} {lo lk : AV} {out : List Int} {ws : List (List AV)} (t : Two h F lc lo lk out ws) : ∃ ck, ck < lc ∧ OwnL h F ck 1 lk ws := let ⟨ck, h1, _, h3, _⟩ := t; ⟨ck, h1, h3⟩
/-- those that are to be looked at grow -/
theorem Two.more2 {h h' : Heap} {F lc k : Nat} {lo lk : AV} {out : List Int} {ws ys : List (List AV)} (t : Two h F lc lo lk out ws) (hk : lc ≤ k) (hh : ∀ c, c < lc → hget h' (ky F c) = hget h (ky F c)) (hys : ∀ x ∈ ys, x.length = 1) :
    Two (hset (killQ h' lk) (ky F k) (mkRow ys.flatten 1)) F (k + 1) lo (.slice (ky F k) 0 0 ys.length none) out ys := by
  obtain ⟨ck, h1, h2, h3, h4⟩ := t
  refine ⟨k, by omega, by omega, OwnL.new hys (by rw [hget_hset, if_pos rfl]) (.inl rfl), ?_⟩
  rcases h4 with h4 | ⟨h5, c, h6, h7, h8, h9, h10⟩
  · exact .inl h4
  · refine .inr ⟨h5, c, by omega, h7, by omega, h9, ?_⟩
    rw [hget_hset, if_neg (by rw [ky_inj]; omega), killQ_get h3 (by rw [ne_eq, ky_inj]; exact h8), hh c h6]
    exact h10
theorem Two.tail {h : Heap} {F lc t e : Nat} {lo lk : AV} {out : List Int} {x : List AV} {ws : List (List AV)} (hu : Tryz.prog.underlying t = some (.slice e)) (hs : sizeT Tryz.prog e = some 1) (w : Two h F lc lo lk out (x :: ws)) : ∃ lk', sliceA Tryz.prog t lk (some (.int .i64 1)) none none = some lk' ∧ Two h F lc lo lk' out ws := by
  obtain ⟨ck, h1, h2, h3, h4⟩ := w
  obtain ⟨l', e1, h5⟩ := h3.tail hu hs
  exact ⟨l', e1, ck, h1, h2, h5, h4⟩
theorem Two.kill_lk {h h' : Heap} {F lc k : Nat} {lo lk : AV} {out : List Int} {ws : List (List AV)} (t : Two h F lc lo lk out ws) (hk : lc ≤ k ∨ k = 9) : hget (killQ h' lk) (ky F k) = hget h' (ky F k) := by
  obtain ⟨ck, h1, h2, h3, h4⟩ := t
  exact killQ_get h3 (by rw [ne_eq, ky_inj]; omega)
theorem iL_drop (s : Int) (out : List Int) {p : Nat} {n : Int} (h : (s :: out)[p]? = some n) : (iL (s :: out)).drop p = [.int .i64 n] :: (iL (s :: out)).drop (p + 1) := by
  have hp := (List.getElem?_eq_some_iff.1 h).1
  have hp2 : p < (iL (s :: out)).length := by rw [iL_len]; exact hp
  rw [List.drop_eq_getElem_cons hp2]
  congr 1
  rw [List.getElem?_eq_getElem hp] at h
  simp only [iL, List.getElem_map]
  rw [Option.some.inj h]
theorem iL_grow (s : Int) (out : List Int) (c : Int) {p : Nat} (hp : p ≤ out.length + 1) : (iL (s :: (out ++ [c]))).drop p = (iL (s :: out)).drop p ++ [[.int .i64 c]] := by
  have : iL (s :: (out ++ [c])) = iL (s :: out) ++ [[.int .i64 c]] := by simp [iL]
  rw [this, List.drop_append_of_le_length (by rw [iL_len]; exact hp)]
theorem bstep_old {n : Int} {out : List Int} {c : Int} (h : c < 0 ∨ n ≤ c ∨ c ∈ out) : bstep n out c = out := by unfold bstep; rw [if_pos h]
theorem bstep_new {n : Int} {out : List Int} {c : Int} (h : ¬ (c < 0 ∨ n ≤ c ∨ c ∈ out)) : bstep n out c = out ++ [c] := by unfold bstep; rw [if_neg h]

end Go.Proofs.YtgjddbcnnelgpaaGreatDoor
