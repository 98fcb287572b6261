/- A part of an evaluator over an abstract heap and of the proof that it is sound for the model. CONDITIONS: those that each theorem names. -/
import Derived.Test.YtneoghpfbgjaiaaGreatDoorAiDraw1
namespace Go.Ai
open Go
variable {P : Program} {G : Glob} {base : Nat}

/-! ### blocks set aside -/
noncomputable def addP (p : Nat → Bool) (h : Heap) : Made → Heap
  | [] => h
  | (j, k, blk) :: r => match p j with
    | true => match hget h k with
      | none => addP p (hset h k blk) r
      | some _ => addP p h r
    | false => addP p h r
theorem addMade_eq (b : Nat) : ∀ (m : Made) (h : Heap), addMade b h m = addP (fun j => b.testBit j) h m
  | [], h => rfl
  | (j, k, blk) :: r, h => by
    simp only [addMade, addP]
    cases b.testBit j with
    | true =>
      simp only
      cases hget h k with
      | none => simp only [hsetC_eq]; exact addMade_eq b r _
      | some _ => exact addMade_eq b r h
    | false => exact addMade_eq b r h
theorem addAll_eq : ∀ (m : Made) (h : Heap), addAll h m = addP (fun _ => true) h m
  | [], h => rfl
  | (j, k, blk) :: r, h => by
    simp only [addAll, addP]
    cases hget h k with
    | none => simp only [hsetC_eq]; exact addAll_eq r _
    | some _ => exact addAll_eq r h
def lookM (p : Nat → Bool) (i : Nat) : Made → Option AB
  | [] => none
  | (j, k, blk) :: r => if i = k ∧ p j = true then some blk else lookM p i r
theorem addP_get (p : Nat → Bool) (i : Nat) : ∀ (m : Made) (h : Heap), hget (addP p h m) i = (hget h i).or (lookM p i m)
  | [], h => by simp [addP, lookM]
  | (j, k, blk) :: r, h => by
    simp only [addP, lookM]
    cases hp : p j with
    | false => simp only [Bool.false_eq_true, and_false, if_false]; exact addP_get p i r h
    | true =>
      simp only [and_true]
      cases hk : hget h k with
      | none =>
        simp only
        rw [addP_get p i r, hget_hset]
        by_cases e : i = k
        · subst e; simp [hk]
        · simp [e]
      | some x =>
        simp only
        rw [addP_get p i r]
        by_cases e : i = k
        · subst e; simp [hk]
        · simp [e]
theorem lookM_some {p : Nat → Bool} {i : Nat} {blk : AB} : ∀ {m : Made}, lookM p i m = some blk → ∃ j, (j, i, blk) ∈ m ∧ p j = true
  | [], h => by simp [lookM] at h
  | (j, k, b) :: r, h => by
    simp only [lookM] at h
    split at h
    · rename_i hc; cases h; obtain ⟨h1, h2⟩ := hc; subst h1; exact ⟨j, List.mem_cons_self, h2⟩
    · obtain ⟨j', h1, h2⟩ := lookM_some h; exact ⟨j', List.mem_cons_of_mem _ h1, h2⟩
theorem lookM_none {p : Nat → Bool} {i : Nat} : ∀ {m : Made}, lookM p i m = none → ∀ j blk, (j, i, blk) ∈ m → p j = false
  | [], _, j, blk, hm => by cases hm
  | (j0, k, b) :: r, h, j, blk, hm => by
    simp only [lookM] at h
    split at h
    · cases h
    · rename_i hc
      rcases List.mem_cons.1 hm with e | e
      · cases e
        cases hp : p j0 with
        | false => rfl
        | true => exact absurd ⟨rfl, hp⟩ hc
      · exact lookM_none h j blk e
/-- what is set aside: one block for each operation -/
def MadeOK (fr : Fr) (done : Nat) (m : Made) : Prop :=
  (∀ j k blk, (j, k, blk) ∈ m → k = keyOf fr j ∧ done.testBit j = true) ∧ (∀ j k blk k' blk', (j, k, blk) ∈ m → (j, k', blk') ∈ m → blk = blk')
theorem key_inj {fr : Fr} {i j : Nat} (h : keyOf fr i = keyOf fr j) : i = j := by
  rw [key_eq, key_eq] at h; omega
theorem MadeOK.look {fr : Fr} {done : Nat} {m : Made} (h : MadeOK fr done m) {p : Nat → Bool} {j k : Nat} {blk : AB} (hm : (j, k, blk) ∈ m) (hp : p j = true) : lookM p k m = some blk := by
  cases hl : lookM p k m with
  | none => have := lookM_none hl j blk hm; rw [hp] at this; cases this
  | some b =>
    obtain ⟨j', h1, h2⟩ := lookM_some hl
    have e1 := (h.1 _ _ _ hm).1
    have e2 := (h.1 _ _ _ h1).1
    have := key_inj (e1.symm.trans e2)
    subst this
    rw [h.2 _ _ _ _ _ hm h1]
theorem MadeOK.sub {fr : Fr} {done : Nat} {m : Made} (h : MadeOK fr done m) {p q : Nat → Bool} (hpq : ∀ j, p j = true → q j = true) {hp : Heap} {i : Nat} {ab : AB} (hg : hget (addP p hp m) i = some ab) : hget (addP q hp m) i = some ab := by
  rw [addP_get] at hg ⊢
  cases hh : hget hp i with
  | some x => rw [hh] at hg; simpa using hg
  | none =>
    rw [hh] at hg
    simp only [Option.none_or] at hg ⊢
    obtain ⟨j, h1, h2⟩ := lookM_some hg
    exact h.look h1 (hpq j h2)

/-- a step in a part of the memory is a step in all of it -/
theorem Stp.frame {ρ ρ' : Map} {w w' : World} {g1 gL g' gL' : GetF} (hr : RH ρ base gL w) (hsub : ∀ i ab, g1 i = some ab → gL i = some ab) (h : Stp ρ base g1 w ρ' g' w')
    (hs : ∀ i ab, gL' i = some ab → ab ≠ .dead → g' i = some ab ∨ (g1 i = none ∧ gL i = some ab)) : Stp ρ base gL w ρ' gL' w' := by
  have hown : ∀ b, owns ρ g1 b → owns ρ gL b := by
    rintro b ⟨i, e, ⟨ab, hg, hd⟩, he, hb⟩
    exact ⟨i, e, ⟨ab, hsub _ _ hg, hd⟩, he, hb⟩
  -- a block aside
  have aside : ∀ i ab, g1 i = none → gL i = some ab → ab ≠ .dead → ∃ e ob, ρ i = some e ∧ base ≤ e.b ∧ w'.heap[e.b]? = some ob ∧ RB ρ e ab ob ∧ ¬ owns ρ g1 e.b ∧ e.b < w.heap.size := by
    intro i ab h1 h2 hd
    obtain ⟨e, ob, he, hb, hw, rb⟩ := hr.blk i ab h2 hd
    have hlt := hr.size h2 hd he
    have hno : ¬ owns ρ g1 e.b := by
      rintro ⟨k, e', ⟨ab', hg, hd'⟩, he', hbb⟩
      have := hr.inj k i e' e ⟨ab', hsub _ _ hg, hd'⟩ ⟨ab, h2, hd⟩ he' he hbb
      subst this
      rw [h1] at hg; cases hg
    exact ⟨e, ob, he, hb, by rw [h.keeps.block e.b hlt hno]; exact hw, rb, hno, hlt⟩
  have part : ∀ i ab, gL' i = some ab → ab ≠ .dead → live g' i ∨ (g1 i = none ∧ gL i = some ab) := fun i ab hi hd => (hs i ab hi hd).imp (fun h => ⟨ab, h, hd⟩) id
  refine ⟨h.mono, ⟨h.keeps.os, h.keeps.tape, h.keeps.output, h.keeps.size, fun b hb hn => h.keeps.block b hb (fun ho => hn (hown b ho))⟩, ⟨fun i ab hi hd => ?_, fun i j e1 e2 li lj hi hj hbb => ?_⟩, ?_⟩
  · rcases hs i ab hi hd with hg | ⟨h1, h2⟩
    · exact h.rh.blk i ab hg hd
    · obtain ⟨e, ob, he, hb, hw, rb, _⟩ := aside i ab h1 h2 hd
      exact ⟨e, ob, h.mono _ _ he, hb, hw, rb.mono h.mono⟩
  · obtain ⟨ab1, hg1, hd1⟩ := li
    obtain ⟨ab2, hg2, hd2⟩ := lj
    rcases part i ab1 hg1 hd1 with l1 | ⟨n1, p1⟩ <;> rcases part j ab2 hg2 hd2 with l2 | ⟨n2, p2⟩
    · exact h.rh.inj i j e1 e2 l1 l2 hi hj hbb
    · obtain ⟨e, ob, he, _, _, _, hno, hlt⟩ := aside j ab2 n2 p2 hd2
      have := h.mono _ _ he; rw [hj] at this; cases this
      rcases h.grow e1.b ⟨i, e1, l1, hi, rfl⟩ with ho | ho
      · rw [hbb] at ho; exact absurd ho hno
      · omega
    · obtain ⟨e, ob, he, _, _, _, hno, hlt⟩ := aside i ab1 n1 p1 hd1
      have := h.mono _ _ he; rw [hi] at this; cases this
      rcases h.grow e2.b ⟨j, e2, l2, hj, rfl⟩ with ho | ho
      · rw [← hbb] at ho; exact absurd ho hno
      · omega
    · obtain ⟨e, ob, he, _⟩ := aside i ab1 n1 p1 hd1
      obtain ⟨e', ob', he', _⟩ := aside j ab2 n2 p2 hd2
      have a1 := h.mono _ _ he; rw [hi] at a1; cases a1
      have a2 := h.mono _ _ he'; rw [hj] at a2; cases a2
      exact hr.inj i j e1 e2 ⟨ab1, p1, hd1⟩ ⟨ab2, p2, hd2⟩ he he' hbb
  · rintro b ⟨i, e, ⟨ab, hg, hd⟩, he, hb⟩
    rcases part i ab hg hd with l1 | ⟨n1, p1⟩
    · exact (h.grow b ⟨i, e, l1, he, hb⟩).imp (hown b) id
    · obtain ⟨e', ob, he', _⟩ := aside i ab n1 p1 hd
      have a1 := h.mono _ _ he'; rw [he] at a1; cases a1
      exact .inl ⟨i, e, ⟨ab, p1, hd⟩, he', hb⟩

/-! ### names -/
theorem mem_tmpsOf {t : Nat} : ∀ {l : List Operand}, Operand.tmp t ∈ l → t ∈ tmpsOf l
  | x :: xs, h => by
    rcases List.mem_cons.1 h with e | e
    · subst e; simp [tmpsOf]
    · have := mem_tmpsOf e
      cases x <;> simp [tmpsOf, this]
theorem names_agree {fr fr' : Fr} {ops : Array Oper} {o : Oper} (h : ∀ t ∈ namesOf ops.toList o, fr.t.get t = fr'.t.get t) :
    (∀ x ∈ o.op.operands, fr.ev x = fr'.ev x) ∧ wantedA fr ops o = wantedA fr' ops o := by
  constructor
  · intro x hx
    cases x with
    | tmp t => simp only [Fr.ev, h t (List.mem_append_left _ (mem_tmpsOf (by simpa using hx)))]
    | const c => rfl
    | global g => rfl
    | func f => rfl
  · unfold wantedA
    cases hg : o.guard with
    | none => rfl
    | some q =>
      obtain ⟨j, want⟩ := q
      simp only
      cases ho : ops.toList[j]? with
      | none => rfl
      | some g =>
        simp only
        cases hd : g.dst with
        | none => rfl
        | some d =>
          have := h d (List.mem_append_right _ (by simp [guardTmp, hg, ho, hd]))
          simp only [this]
theorem hasTmp_iff {d : Option Tmp} {l : List Nat} : hasTmp d l = true ↔ ∃ t, d = some t ∧ t ∈ l := by
  cases d with
  | none => simp [hasTmp]
  | some t => simp [hasTmp]

theorem put_some' {fr : Fr} {d : Option Tmp} {v : AV} {fr' : Fr} (h : fr.put d v = some fr') :
    (fr'.fno = fr.fno ∧ fr'.lc = fr.lc ∧ fr'.n = fr.n ∧ fr'.df = fr.df ∧ fr'.rc = fr.rc) ∧ (∀ t, d = some t → t < fr.n) ∧ (∀ t, fr'.t.get t = if d = some t then some v else fr.t.get t) := by
  cases d with
  | none => simp only [Fr.put, Option.some.injEq] at h; subst h; simp
  | some d =>
    obtain ⟨hd, rfl⟩ := Fr.put_some _ _ _ _ h
    refine ⟨⟨rfl, rfl, rfl, rfl, rfl⟩, fun t ht => by cases ht; exact hd, fun t => ?_⟩
    simp only [T.get_set]
    by_cases e : t = d
    · subst e; simp
    · have : ¬ (some d = some t) := fun h => e (by cases h; rfl)
      simp [e, this]
theorem put_ok (fr : Fr) (d : Option Tmp) (v : AV) (h : ∀ t, d = some t → t < fr.n) : ∃ fr', fr.put d v = some fr' := by
  cases d with
  | none => exact ⟨fr, rfl⟩
  | some d =>
    obtain ⟨fno, lc, n, t, df, rc⟩ := fr
    have hd : d < n := h d rfl
    have : Nat.blt d n = true := by simpa using hd
    simp only [Fr.put, this, avC_eq, T.setC_eq]
    exact ⟨_, rfl⟩
end Go.Ai
