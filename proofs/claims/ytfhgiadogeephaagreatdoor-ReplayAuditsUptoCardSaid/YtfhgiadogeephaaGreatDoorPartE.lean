/- A part of the proof of the law ReplayAudits. CONDITIONS: those that each theorem names. -/
import Derived.Test.YtfhgiadogeephaaGreatDoorEngineA
import Derived.Test.YtfhgiadogeephaaGreatDoorEngineB
import Derived.Test.YtfhgiadogeephaaGreatDoorEngineC
import Derived.Test.YtfhgiadogeephaaGreatDoorEngineD
import Derived.Test.YtfhgiadogeephaaGreatDoorPartA
import Derived.Test.YtfhgiadogeephaaGreatDoorPartB
import Derived.Test.YtfhgiadogeephaaGreatDoorRA7
import Derived.Test.YtfhgiadogeephaaGreatDoorPartC
import Derived.Test.YtfhgiadogeephaaGreatDoorRA11
import Derived.Test.YtfhgiadogeephaaGreatDoorPartD
import Derived.Test.YtfhgiadogeephaaGreatDoorRA10
/-! What stands in a row is one list. -/
namespace Go.Ai
open Go
theorem bools_inj {l l' : List Bool} (e : bools l = bools l') : l = l' := by
  have := congrArg (List.map fun x => match x with
    | AV.bool n => n
    | _ => false) e
  simpa [bools, List.map_map, Function.comp_def] using this
theorem aRow_inj {h : Heap} {k : Nat} {l l' : List AV} (h1 : hget h k = some (aRow l)) (h2 : hget h k = some (aRow l')) : l = l' := mkRow_inj (Option.some.inj (h1.symm.trans h2))
theorem RowB.inj {h : Heap} {F : Nat} {a : AV} {L L' : List AV} (g : RowB h F a L) (g' : RowB h F a L') : L = L' := by
  rcases g with ⟨rfl, rfl⟩ | ⟨k, eo, cap, _, rfl, h1⟩
  · rcases g' with ⟨_, rfl⟩ | ⟨k, eo, cap, _, e, _⟩
    · rfl
    · cases e
  · rcases g' with ⟨e, _⟩ | ⟨k', eo', cap', _, e, h2⟩
    · cases e
    · injection e with e1
      subst e1
      exact aRow_inj h1 h2
/-- books that lie below a frame -/
def CB (h : Heap) (F : Nat) (p : AV) (b : Bk) : Prop := ∃ kk s1 s2 s3 s4 s5, p = .ptr kk 0 ∧ kk < ky F 0 ∧ hget h kk = some (mkRow [s1, s2, s3, s4, s5] 0) ∧ RowB h F s1 (ints b.ph) ∧ RowB h F s2 (ints b.hs) ∧ RowB h F s3 (bools b.fu) ∧ RowB h F s4 (bools b.ta) ∧ RowB h F s5 (bools b.re)
theorem CB.inj {h : Heap} {F : Nat} {p : AV} {b b' : Bk} (c : CB h F p b) (c' : CB h F p b') : b = b' := by
  obtain ⟨kk, s1, s2, s3, s4, s5, rfl, _, h0, g1, g2, g3, g4, g5⟩ := c
  obtain ⟨kk', t1, t2, t3, t4, t5, e, _, h0', g1', g2', g3', g4', g5'⟩ := c'
  cases e
  have := mkRow_inj (Option.some.inj (h0.symm.trans h0'))
  simp only [List.cons.injEq, and_true] at this
  obtain ⟨rfl, rfl, rfl, rfl, rfl⟩ := this
  cases b; cases b'
  simp only [Bk.mk.injEq]
  exact ⟨ints_inj (g1.inj g1'), ints_inj (g2.inj g2'), bools_inj (g3.inj g3'), bools_inj (g4.inj g4'), bools_inj (g5.inj g5')⟩
/-- the program's books that lie below a frame -/
def CA (h : Heap) (F : Nat) (p l : AV) (b : Bk) : Prop := ∃ kk s1 s2 s3 s4 s5, p = .ptr kk 0 ∧ kk < ky F 0 ∧ hget h kk = some (mkRow [l, s3, s4, s5, s1, s2] 0) ∧ RowB h F s1 (ints b.ph) ∧ RowB h F s2 (ints b.hs) ∧ RowB h F s3 (bools b.fu) ∧ RowB h F s4 (bools b.ta) ∧ RowB h F s5 (bools b.re)
theorem CA.inj {h : Heap} {F : Nat} {p l l' : AV} {b b' : Bk} (c : CA h F p l b) (c' : CA h F p l' b') : b = b' := by
  obtain ⟨kk, s1, s2, s3, s4, s5, rfl, _, h0, g1, g2, g3, g4, g5⟩ := c
  obtain ⟨kk', t1, t2, t3, t4, t5, e, _, h0', g1', g2', g3', g4', g5'⟩ := c'
  cases e
  have := mkRow_inj (Option.some.inj (h0.symm.trans h0'))
  simp only [List.cons.injEq, and_true] at this
  obtain ⟨rfl, rfl, rfl, rfl, rfl, rfl⟩ := this
  cases b; cases b'
  simp only [Bk.mk.injEq]
  exact ⟨ints_inj (g1.inj g1'), ints_inj (g2.inj g2'), bools_inj (g3.inj g3'), bools_inj (g4.inj g4'), bools_inj (g5.inj g5')⟩
/-- the program's view of the books -/
def bP (b : Bk) : Bk := ⟨b.ph, hsP b, b.fu, b.ta, b.re⟩
theorem two_bP {b : Bk} {w n j : Nat} {q f : Int} (g : Gd w n b) (_ : 0 ≤ q) (hj : j < w) : two (bP b) (j : Int) q f ↔ two b (j : Int) q f := by
  obtain ⟨p, hp⟩ : ∃ p, b.ph[j]? = some p := ⟨_, List.getElem?_eq_getElem (by rw [g.ph]; exact hj)⟩
  obtain ⟨e, he⟩ : ∃ e, b.hs[j]? = some e := ⟨_, List.getElem?_eq_getElem (by rw [g.hs]; exact hj)⟩
  have h1 : atI (bP b).ph (j : Int) = p := atI_of hp
  have h2 : atI b.ph (j : Int) = p := atI_of hp
  have h3 : atI (bP b).hs (j : Int) = if p = 0 then -1 else e := atI_of (hsP_at hp he)
  have h4 : atI b.hs (j : Int) = e := atI_of he
  unfold two
  rw [h1, h2, h3, h4]
  by_cases h0 : p = 0
  · simp [h0]
  · rw [if_neg h0]
theorem rule_bP {R W : List (List Tx)} {b : Bk} {w : Nat} {x q f : Int} (g : Gd w R.length b) : ruleB R W (bP b) ⟨x, q, f⟩ = ruleB R W b ⟨x, q, f⟩ := by
  by_cases h6 : six R b x q f
  · rw [rl1 (W := W) h6, rl1 (W := W) (show six R (bP b) x q f from h6)]
  · have h6' : ¬ six R (bP b) x q f := h6
    have hx : 0 ≤ x ∧ x < (w : Int) ∧ 0 ≤ q := by rw [← g.ph]; unfold six at h6; omega
    obtain ⟨j, rfl⟩ : ∃ j : Nat, x = j := ⟨x.toNat, by omega⟩
    have h22 := two_bP (f := f) g hx.2.2 (show j < w by omega)
    by_cases h2 : two b (j : Int) q f
    · rw [rl2 (W := W) h6 h2, rl2 (W := W) h6' (h22.2 h2)]
    · have h2' : ¬ two (bP b) (j : Int) q f := fun h => h2 (h22.1 h)
      by_cases h3 : f = 1
      · rw [rlt h6 h2 h3, rlt h6' h2' h3]; rfl
      · rw [rl0 h6 h2 h3, rl0 h6' h2' h3]
end Go.Ai

