/- A part of the proof of the law ReplayRings. CONDITIONS: those that each theorem names. -/
import Derived.Test.YtpgkhpfogjclhaaGreatDoorIMap
/-! What lies below a frame stays; lists in the frames between two numbers. -/
namespace Go.Ai
open Go
variable {P : Program}
/-- all that lies below the frame's names is as it was -/
def Low (F : Nat) (h h' : Heap) : Prop := ∀ i, i < ky F 0 → hget h' i = hget h i
theorem Low.refl (F : Nat) (h : Heap) : Low F h h := fun _ _ => rfl
theorem Low.trans {F : Nat} {a b c : Heap} (h1 : Low F a b) (h2 : Low F b c) : Low F a c := fun i hi => (h2 i hi).trans (h1 i hi)
theorem ky_mono {F G : Nat} (h : F ≤ G) : ky F 0 ≤ ky G 0 := by unfold ky; omega
theorem ky_next (F c : Nat) (hc : c ≤ 1267650600228229401496703205375) : ky F c < ky (F + 1) 0 := by unfold ky; omega
theorem Low.down {F G : Nat} {h h' : Heap} (hl : Low G h h') (hf : F ≤ G) : Low F h h' := fun i hi => hl i (Nat.lt_of_lt_of_le hi (ky_mono hf))
theorem Low.set {F G c : Nat} {h h' : Heap} {b : AB} (hl : Low F h h') (hf : F ≤ G) : Low F h (hset h' (ky G c) b) := fun i hi => by
  rw [hget_hset, if_neg]
  · exact hl i hi
  · intro e
    have h1 := ky_le G c
    have h2 := ky_mono hf
    omega
theorem Low.same {F : Nat} {h h' : Heap} (hw : Wf ⟨h, F⟩) (hl : Low F h h') : SameH h h' := fun i ab hi hd => by
  rw [hl i (hw i ab hi hd)]; exact hi
theorem Low.kill {F lc : Nat} {h h' h2 : Heap} {l : AV} {zs : List Int} (hl : Low F h h') (hi : IL h2 F lc l zs) : Low F h (Ai.kill h' l) := by
  rcases hi with ⟨rfl, _⟩ | ⟨_, c, _, rfl, _⟩
  · exact hl
  · exact hl.set (Nat.le_refl F)
/-- a call changes nothing of the caller's -/
theorem Low.own {F G c : Nat} {h h' : Heap} (hl : Low G h h') (hf : F < G) (hc : c ≤ 1267650600228229401496703205375) : hget h' (ky F c) = hget h (ky F c) := by
  refine hl _ ?_
  have h1 := ky_next F c hc
  have h2 : ky (F + 1) 0 ≤ ky G 0 := ky_mono hf
  omega
/-- the same in the frames from A on, below B -/
def EqI (A B : Nat) (h h' : Heap) : Prop := ∀ b, ky A 0 ≤ b → b < ky B 0 → hget h' b = hget h b
theorem EqI.refl (A B : Nat) (h : Heap) : EqI A B h h := fun _ _ _ => rfl
theorem EqI.trans {A B : Nat} {a b c : Heap} (h1 : EqI A B a b) (h2 : EqI A B b c) : EqI A B a c := fun i hi hj => (h2 i hi hj).trans (h1 i hi hj)
theorem EqI.set {A B F c : Nat} {h h' : Heap} {b : AB} (he : EqI A B h h') (hf : F < A ∨ B ≤ F) (hc : c ≤ 1267650600228229401496703205375) : EqI A B h (hset h' (ky F c) b) := fun i h1 h2 => by
  rw [hget_hset, if_neg]
  · exact he i h1 h2
  · intro e
    have h3 := ky_le F c
    have h4 := ky_next F c hc
    rcases hf with hf | hf
    · have : ky (F + 1) 0 ≤ ky A 0 := ky_mono hf
      omega
    · have := ky_mono hf
      omega
theorem EqI.call {A B G : Nat} {h h' h2 : Heap} (he : EqI A B h h') (hl : Low G h' h2) (hg : B ≤ G) : EqI A B h h2 := fun i h1 h3 => by
  rw [hl i (Nat.lt_of_lt_of_le h3 (ky_mono hg))]; exact he i h1 h3
/-- a list in the frames from A on, below B -/
def LstI (A B : Nat) (h : Heap) (ks : List CK) (a : AV) (L : List (List AV)) : Prop := LstP h ks a L ∧ ∀ b o eo n cap, a = .slice b o eo n cap → 0 < n → ky A 0 ≤ b ∧ b < ky B 0
section
variable {A B : Nat} {h h' : Heap} {ks : List CK} {a : AV} {L : List (List AV)}
theorem LstI.p (hl : LstI A B h ks a L) : LstP h ks a L := hl.1
theorem LstI.move (hl : LstI A B h ks a L) (he : EqI A B h h') : LstI A B h' ks a L := by
  refine ⟨⟨hl.1.1, hl.1.2.1, ?_⟩, hl.2⟩
  rcases hl.1.2.2 with c | ⟨b, o, eo, cap, e, r⟩
  · exact .inl c
  · refine .inr ⟨b, o, eo, cap, e, fun hp => ?_⟩
    obtain ⟨h1, h2⟩ := hl.2 b o eo _ cap e hp
    rw [he b h1 h2]; exact r hp
theorem LstI.wide {A' B' : Nat} (hl : LstI A B h ks a L) (hA : A' ≤ A) (hB : B ≤ B') : LstI A' B' h ks a L :=
  ⟨hl.1, fun b o eo n cap e hp => let ⟨h1, h2⟩ := hl.2 b o eo n cap e hp; ⟨Nat.le_trans (ky_mono hA) h1, Nat.lt_of_lt_of_le h2 (ky_mono hB)⟩⟩
theorem ky_zero : ky 0 0 = 0 := by unfold ky; rfl
/-- what a state holds lies below its frames -/
theorem LstP.below {F : Nat} (hw : Wf ⟨h, F⟩) (hl : LstP h ks a L) (hk : 0 < ks.length) : LstI 0 F h ks a L := by
  refine ⟨hl, fun b o eo n cap e hp => ⟨by rw [ky_zero]; exact Nat.zero_le _, ?_⟩⟩
  rcases hl.2.2 with ⟨c | c, _⟩ | ⟨b', o', eo', cap', e', r⟩
  · rw [e] at c; cases c
  · rw [e] at c; cases c
  · rw [e] at e'
    cases e'
    exact rd_low hw (r hp)
/-- an element -/
theorem LstI.at (hl : LstI A B h ks a L) {i : Nat} (hi : i < L.length) : ∃ b o eo cap, a = .slice b o eo L.length cap ∧ ky A 0 ≤ b ∧ b < ky B 0 ∧ rdAB (hget h b) (o + i * ks.length) ks.length = some L[i] ∧
    ∀ off m, off + m ≤ ks.length → rdAB (hget h b) (o + i * ks.length + off) m = some ((L[i].drop off).take m) := by
  obtain ⟨b, o, eo, cap, e, h1, h2⟩ := hl.1.at hi
  obtain ⟨h3, h4⟩ := hl.2 _ _ _ _ _ e (by omega)
  exact ⟨b, o, eo, cap, e, h3, h4, h1, h2⟩
end
/-- no name of another frame is one of this -/
theorem off_ne {A B F b : Nat} (h1 : ky A 0 ≤ b) (h2 : b < ky B 0) (hf : F < A ∨ B ≤ F) : ∀ c, c ≤ 1267650600228229401496703205375 → (b = ky F c) = False := fun c hc => eq_false (by
  have h3 := ky_le F c
  have h4 := ky_next F c hc
  rcases hf with hf | hf
  · have : ky (F + 1) 0 ≤ ky A 0 := ky_mono hf
    omega
  · have := ky_mono hf
    omega)
end Go.Ai
