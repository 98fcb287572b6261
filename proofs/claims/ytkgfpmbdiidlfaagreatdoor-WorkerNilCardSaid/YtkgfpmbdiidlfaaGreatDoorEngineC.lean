/- A part of an evaluator over an abstract heap and of the proof that it is sound for the model. CONDITIONS: those that each theorem names. -/
import Derived.Laws.Externs
import Derived.Test.YtkgfpmbdiidlfaaGreatDoorEngineB
namespace Go.Ai
open Go
variable {P : Program} {G : Glob} {base : Nat}

/-! ### blocks set aside -/
noncomputable def addP (p : Nat → Bool) (h : Heap) : Made → Heap
  | [] => h
  | (j, k, blk) :: r => match p j with
    | true => match hget h k with
      | none => addP p (hset h k blk) r
      | some _ => addP p h r
    | false => addP p h r
theorem addMade_eq (b : Nat) : ∀ (m : Made) (h : Heap), addMade b h m = addP (fun j => b.testBit j) h m
  | [], h => rfl
  | (j, k, blk) :: r, h => by
    simp only [addMade, addP]
    cases b.testBit j with
    | true =>
      simp only
      cases hget h k with
      | none => simp only [hsetC_eq]; exact addMade_eq b r _
      | some _ => exact addMade_eq b r h
    | false => exact addMade_eq b r h
theorem addAll_eq : ∀ (m : Made) (h : Heap), addAll h m = addP (fun _ => true) h m
  | [], h => rfl
  | (j, k, blk) :: r, h => by
    simp only [addAll, addP]
    cases hget h k with
    | none => simp only [hsetC_eq]; exact addAll_eq r _
    | some _ => exact addAll_eq r h
def lookM (p : Nat → Bool) (i : Nat) : Made → Option AB
  | [] => none
  | (j, k, blk) :: r => if i = k ∧ p j = true then some blk else lookM p i r
theorem addP_get (p : Nat → Bool) (i : Nat) : ∀ (m : Made) (h : Heap), hget (addP p h m) i = (hget h i).or (lookM p i m)
  | [], h => by simp [addP, lookM]
  | (j, k, blk) :: r, h => by
    simp only [addP, lookM]
    cases hp : p j with
    | false => simp only [Bool.false_eq_true, and_false, if_false]; exact addP_get p i r h
    | true =>
      simp only [and_true]
      cases hk : hget h k with
      | none =>
        simp only
        rw [addP_get p i r, hget_hset]
        by_cases e : i = k
        · subst e; simp [hk]
        · simp [e]
      | some x =>
        simp only
        rw [addP_get p i r]
        by_cases e : i = k
        · subst e; simp [hk]
        · simp [e]
theorem lookM_some {p : Nat → Bool} {i : Nat} {blk : AB} : ∀ {m : Made}, lookM p i m = some blk → ∃ j, (j, i, blk) ∈ m ∧ p j = true
  | [], h => by simp [lookM] at h
  | (j, k, b) :: r, h => by
    simp only [lookM] at h
    split at h
    · rename_i hc; cases h; obtain ⟨h1, h2⟩ := hc; subst h1; exact ⟨j, List.mem_cons_self, h2⟩
    · obtain ⟨j', h1, h2⟩ := lookM_some h; exact ⟨j', List.mem_cons_of_mem _ h1, h2⟩
theorem lookM_none {p : Nat → Bool} {i : Nat} : ∀ {m : Made}, lookM p i m = none → ∀ j blk, (j, i, blk) ∈ m → p j = false
  | [], _, j, blk, hm => by cases hm
  | (j0, k, b) :: r, h, j, blk, hm => by
    simp only [lookM] at h
    split at h
    · cases h
    · rename_i hc
      rcases List.mem_cons.1 hm with e | e
      · cases e
        cases hp : p j0 with
        | false => rfl
        | true => exact absurd ⟨rfl, hp⟩ hc
      · exact lookM_none h j blk e
/-- what is set aside: one block for each operation -/
def MadeOK (fr : Fr) (done : Nat) (m : Made) : Prop :=
  (∀ j k blk, (j, k, blk) ∈ m → k = keyOf fr j ∧ done.testBit j = true) ∧ (∀ j k blk k' blk', (j, k, blk) ∈ m → (j, k', blk') ∈ m → blk = blk')
theorem key_inj {fr : Fr} {i j : Nat} (h : keyOf fr i = keyOf fr j) : i = j := by
  rw [key_eq, key_eq] at h; omega
theorem MadeOK.look {fr : Fr} {done : Nat} {m : Made} (h : MadeOK fr done m) {p : Nat → Bool} {j k : Nat} {blk : AB} (hm : (j, k, blk) ∈ m) (hp : p j = true) : lookM p k m = some blk := by
  cases hl : lookM p k m with
  | none => have := lookM_none hl j blk hm; rw [hp] at this; cases this
  | some b =>
    obtain ⟨j', h1, h2⟩ := lookM_some hl
    have e1 := (h.1 _ _ _ hm).1
    have e2 := (h.1 _ _ _ h1).1
    have := key_inj (e1.symm.trans e2)
    subst this
    rw [h.2 _ _ _ _ _ hm h1]
theorem MadeOK.sub {fr : Fr} {done : Nat} {m : Made} (h : MadeOK fr done m) {p q : Nat → Bool} (hpq : ∀ j, p j = true → q j = true) {hp : Heap} {i : Nat} {ab : AB} (hg : hget (addP p hp m) i = some ab) : hget (addP q hp m) i = some ab := by
  rw [addP_get] at hg ⊢
  cases hh : hget hp i with
  | some x => rw [hh] at hg; simpa using hg
  | none =>
    rw [hh] at hg
    simp only [Option.none_or] at hg ⊢
    obtain ⟨j, h1, h2⟩ := lookM_some hg
    exact h.look h1 (hpq j h2)

/-- a step in a part of the memory is a step in all of it -/
theorem Stp.frame {ρ ρ' : Map} {w w' : World} {g1 gL g' gL' : GetF} (hr : RH ρ base gL w) (hsub : ∀ i ab, g1 i = some ab → gL i = some ab) (h : Stp ρ base g1 w ρ' g' w')
    (hs : ∀ i ab, gL' i = some ab → ab ≠ .dead → g' i = some ab ∨ (g1 i = none ∧ gL i = some ab)) : Stp ρ base gL w ρ' gL' w' := by
  have hown : ∀ b, owns ρ g1 b → owns ρ gL b := by
    rintro b ⟨i, e, ⟨ab, hg, hd⟩, he, hb⟩
    exact ⟨i, e, ⟨ab, hsub _ _ hg, hd⟩, he, hb⟩
  -- a block aside
  have aside : ∀ i ab, g1 i = none → gL i = some ab → ab ≠ .dead → ∃ e ob, ρ i = some e ∧ base ≤ e.b ∧ w'.heap[e.b]? = some ob ∧ RB ρ e ab ob ∧ ¬ owns ρ g1 e.b ∧ e.b < w.heap.size := by
    intro i ab h1 h2 hd
    obtain ⟨e, ob, he, hb, hw, rb⟩ := hr.blk i ab h2 hd
    have hlt := hr.size h2 hd he
    have hno : ¬ owns ρ g1 e.b := by
      rintro ⟨k, e', ⟨ab', hg, hd'⟩, he', hbb⟩
      have := hr.inj k i e' e ⟨ab', hsub _ _ hg, hd'⟩ ⟨ab, h2, hd⟩ he' he hbb
      subst this
      rw [h1] at hg; cases hg
    exact ⟨e, ob, he, hb, by rw [h.keeps.block e.b hlt hno]; exact hw, rb, hno, hlt⟩
  have part : ∀ i ab, gL' i = some ab → ab ≠ .dead → live g' i ∨ (g1 i = none ∧ gL i = some ab) := fun i ab hi hd => (hs i ab hi hd).imp (fun h => ⟨ab, h, hd⟩) id
  refine ⟨h.mono, ⟨h.keeps.os, h.keeps.tape, h.keeps.output, h.keeps.size, fun b hb hn => h.keeps.block b hb (fun ho => hn (hown b ho))⟩, ⟨fun i ab hi hd => ?_, fun i j e1 e2 li lj hi hj hbb => ?_⟩, ?_⟩
  · rcases hs i ab hi hd with hg | ⟨h1, h2⟩
    · exact h.rh.blk i ab hg hd
    · obtain ⟨e, ob, he, hb, hw, rb, _⟩ := aside i ab h1 h2 hd
      exact ⟨e, ob, h.mono _ _ he, hb, hw, rb.mono h.mono⟩
  · obtain ⟨ab1, hg1, hd1⟩ := li
    obtain ⟨ab2, hg2, hd2⟩ := lj
    rcases part i ab1 hg1 hd1 with l1 | ⟨n1, p1⟩ <;> rcases part j ab2 hg2 hd2 with l2 | ⟨n2, p2⟩
    · exact h.rh.inj i j e1 e2 l1 l2 hi hj hbb
    · obtain ⟨e, ob, he, _, _, _, hno, hlt⟩ := aside j ab2 n2 p2 hd2
      have := h.mono _ _ he; rw [hj] at this; cases this
      rcases h.grow e1.b ⟨i, e1, l1, hi, rfl⟩ with ho | ho
      · rw [hbb] at ho; exact absurd ho hno
      · omega
    · obtain ⟨e, ob, he, _, _, _, hno, hlt⟩ := aside i ab1 n1 p1 hd1
      have := h.mono _ _ he; rw [hi] at this; cases this
      rcases h.grow e2.b ⟨j, e2, l2, hj, rfl⟩ with ho | ho
      · rw [← hbb] at ho; exact absurd ho hno
      · omega
    · obtain ⟨e, ob, he, _⟩ := aside i ab1 n1 p1 hd1
      obtain ⟨e', ob', he', _⟩ := aside j ab2 n2 p2 hd2
      have a1 := h.mono _ _ he; rw [hi] at a1; cases a1
      have a2 := h.mono _ _ he'; rw [hj] at a2; cases a2
      exact hr.inj i j e1 e2 ⟨ab1, p1, hd1⟩ ⟨ab2, p2, hd2⟩ he he' hbb
  · rintro b ⟨i, e, ⟨ab, hg, hd⟩, he, hb⟩
    rcases part i ab hg hd with l1 | ⟨n1, p1⟩
    · exact (h.grow b ⟨i, e, l1, he, hb⟩).imp (hown b) id
    · obtain ⟨e', ob, he', _⟩ := aside i ab n1 p1 hd
      have a1 := h.mono _ _ he'; rw [he] at a1; cases a1
      exact .inl ⟨i, e, ⟨ab, p1, hd⟩, he', hb⟩

/-! ### names -/
theorem mem_tmpsOf {t : Nat} : ∀ {l : List Operand}, Operand.tmp t ∈ l → t ∈ tmpsOf l
  | x :: xs, h => by
    rcases List.mem_cons.1 h with e | e
    · subst e; simp [tmpsOf]
    · have := mem_tmpsOf e
      cases x <;> simp [tmpsOf, this]
theorem names_agree {fr fr' : Fr} {ops : Array Oper} {o : Oper} (h : ∀ t ∈ namesOf ops.toList o, fr.t.get t = fr'.t.get t) :
    (∀ x ∈ o.op.operands, fr.ev x = fr'.ev x) ∧ wantedA fr ops o = wantedA fr' ops o := by
  constructor
  · intro x hx
    cases x with
    | tmp t => simp only [Fr.ev, h t (List.mem_append_left _ (mem_tmpsOf (by simpa using hx)))]
    | const c => rfl
    | global g => rfl
    | func f => rfl
  · unfold wantedA
    cases hg : o.guard with
    | none => rfl
    | some q =>
      obtain ⟨j, want⟩ := q
      simp only
      cases ho : ops.toList[j]? with
      | none => rfl
      | some g =>
        simp only
        cases hd : g.dst with
        | none => rfl
        | some d =>
          have := h d (List.mem_append_right _ (by simp [guardTmp, hg, ho, hd]))
          simp only [this]
theorem hasTmp_iff {d : Option Tmp} {l : List Nat} : hasTmp d l = true ↔ ∃ t, d = some t ∧ t ∈ l := by
  cases d with
  | none => simp [hasTmp]
  | some t => simp [hasTmp]

theorem put_some' {fr : Fr} {d : Option Tmp} {v : AV} {fr' : Fr} (h : fr.put d v = some fr') :
    (fr'.fno = fr.fno ∧ fr'.lc = fr.lc ∧ fr'.n = fr.n ∧ fr'.df = fr.df ∧ fr'.rc = fr.rc) ∧ (∀ t, d = some t → t < fr.n) ∧ (∀ t, fr'.t.get t = if d = some t then some v else fr.t.get t) := by
  cases d with
  | none => simp only [Fr.put, Option.some.injEq] at h; subst h; simp
  | some d =>
    obtain ⟨hd, rfl⟩ := Fr.put_some _ _ _ _ h
    refine ⟨⟨rfl, rfl, rfl, rfl, rfl⟩, fun t ht => by cases ht; exact hd, fun t => ?_⟩
    simp only [T.get_set]
    by_cases e : t = d
    · subst e; simp
    · have : ¬ (some d = some t) := fun h => e (by cases h; rfl)
      simp [e, this]
theorem put_ok (fr : Fr) (d : Option Tmp) (v : AV) (h : ∀ t, d = some t → t < fr.n) : ∃ fr', fr.put d v = some fr' := by
  cases d with
  | none => exact ⟨fr, rfl⟩
  | some d =>
    obtain ⟨fno, lc, n, t, df, rc⟩ := fr
    have hd : d < n := h d rfl
    have : Nat.blt d n = true := by simpa using hd
    simp only [Fr.put, this, avC_eq, T.setC_eq]
    exact ⟨_, rfl⟩
end Go.Ai

namespace Go.Ai
open Go
variable {P : Program} {G : Glob} {base : Nat}

def Dst (fr : Fr) (o : Oper) (v : AV) : Prop := ∀ d, o.dst = some d → fr.t.get d = some v

def NoMade (z : Seen) (i : Nat) : Prop := ∀ k blk, (i, k, blk) ∉ z.made
/-- an operation that the evaluation has seen, and the run has not -/
def Pend (P : Program) (G : Glob) (ops : Array Oper) (fr : Fr) (s : St) (z : Seen) (i b : Nat) (o : Oper) : Prop :=
  (∀ d, o.dst = some d → d < fr.n) ∧
  ((NoMade z i ∧ wantedA fr ops o = false ∧ Dst fr o .undef) ∨
   (wantedA fr ops o = true ∧
     ((NoMade z i ∧ clsOf o.op = .pure ∧ ∃ v, pureOp P fr o.op = some v ∧ Dst fr o v) ∨
      (NoMade z i ∧ clsOf o.op = .read ∧ ∃ v, (i, b, o.op, v) ∈ z.reads ∧ readOp P G fr (addP (fun j => b.testBit j) s.h z.made) o.op = some v ∧ Dst fr o v) ∨
      (clsOf o.op = .alloc ∧ ∃ v blk, (i, keyOf fr i, blk) ∈ z.made ∧ allocOp P fr (keyOf fr i) o.op = some (v, blk) ∧ Dst fr o v ∧ hget s.h (keyOf fr i) = none))))

structure Inv (P : Program) (G : Glob) (base : Nat) (ops : Array Oper) (bs : List Nat) (fno : Nat) (rc0 : Rc) (ρ0 : Map) (s0 : St) (w0 : World)
    (rest : List DE) (done hv : Nat) (fr : Fr) (s : St) (z : Seen) (L : Nat → Bool) (frL : Fr) (ρ : Map) (a : Act) (w : World) : Prop where
  ent : ∀ x ∈ rest, ops[x.1]? = some x.2.2.2 ∧ bs[x.1]? = some x.2.1
  ok : orderOk (Nat.sub (2 ^ ops.toList.length) 1) rest done hv = true
  cl : Closed ops (fun i => L i = true)
  dl : ∀ i, done.testBit i = true → i < ops.size
  db : ∀ i o b, done.testBit i = true → ops[i]? = some o → bs[i]? = some b → ∀ j, b.testBit j = true → done.testBit j = true
  ld : ∀ i, L i = true → done.testBit i = true
  hl : ∀ i o, done.testBit i = true → ops[i]? = some o → isBar o = true → L i = true
  fe : frL.fno = fr.fno ∧ frL.lc = fr.lc ∧ frL.n = fr.n ∧ frL.df = fr.df ∧ frL.rc = fr.rc
  rf : RF ρ frL a
  ag : ∀ t, (∀ i o, ops[i]? = some o → o.dst = some t → done.testBit i = true → L i = true) → frL.t.get t = fr.t.get t
  pend : ∀ i o b, done.testBit i = true → L i = false → ops[i]? = some o → bs[i]? = some b → Pend P G ops fr s z i b o
  mad : MadeOK fr done z.made
  rm : RM G base ρ ⟨addP L s.h z.made, s.fc⟩ w
  ad : Adv base (Own fno) ρ0 s0 w0 ρ ⟨addP L s.h z.made, s.fc⟩ w
  fresh : ∀ k, fr.fno * KK + fr.lc ≤ k → k < (fr.fno + 1) * KK → ρ k ≠ none → ∃ i, L i = true ∧ k = keyOf fr i
  fn : fr.fno < s.fc
  fno : fr.fno = fno
  df : RD ρ fr.df a.defers
  klt : fr.lc + ops.size < KK
  nrc : fr.rc = rc0

section
variable {ops : Array Oper} {bs : List Nat} {fno : Nat} {rc0 : Rc} {ρ0 : Map} {s0 : St} {w0 : World} {rest : List DE} {done hv : Nat} {fr : Fr} {s : St} {z : Seen} {L : Nat → Bool} {frL : Fr} {ρ : Map} {a : Act} {w : World}

/-- the names of an operation are as the evaluation has them -/
theorem Inv.agree (I : Inv P G base ops bs fno rc0 ρ0 s0 w0 rest done hv fr s z L frL ρ a w) (hN : NamesOk ops bs) (hB : Bef ops bs) {j b : Nat} {o : Oper} (ho : ops[j]? = some o) (hb : bs[j]? = some b) (hbL : ∀ k, b.testBit k = true → L k = true) :
    (∀ x ∈ o.op.operands, frL.ev x = fr.ev x) ∧ wantedA frL ops o = wantedA fr ops o := by
  refine names_agree fun t ht => I.ag t fun i oi hoi hdi hdone => ?_
  have hi : i < bs.length := by rw [hB.len]; exact (Array.getElem?_eq_some_iff.1 hoi).1
  rcases hN.names j b o ho hb i bs[i] oi hoi (by simp [hi]) (hasTmp_iff.2 ⟨t, hdi, ht⟩) with h | ⟨h, _⟩
  · exact hbL i h
  · exact I.hl i oi hdone hoi h

theorem orderOk_hv {full : Nat} : ∀ {l : List DE} {done hv : Nat}, orderOk full l done hv = true → ∀ x ∈ l, ∀ k, hv.testBit k = true → x.2.1.testBit k = true
  | [], _, _, _, x, hx, _, _ => by cases hx
  | (i, b, st, o) :: r, done, hv, h, x, hx, k, hk => by
    simp only [orderOk] at h
    split at h
    · rename_i e1 e2 e3 e4
      rcases List.mem_cons.1 hx with e | e
      · subst e; exact covers_spec e3 hk
      · exact orderOk_hv h x e k (by rw [lor_spec, hk]; rfl)
    · rename_i e1 e2 e3 e4
      rcases List.mem_cons.1 hx with e | e
      · subst e; exact covers_spec e3 hk
      · exact orderOk_hv h x e k hk
    · cases h
theorem orderOk_mem {n : Nat} : ∀ {l : List DE} {done hv : Nat}, orderOk (Nat.sub (2 ^ n) 1) l done hv = true → ∀ j, j < n → done.testBit j = true ∨ ∃ x ∈ l, x.1 = j
  | [], done, _, h, j, hj => by
    simp only [orderOk] at h
    have := Nat.eq_of_beq_eq_true h
    subst this
    left
    show (2 ^ n - 1).testBit j = true
    rw [Nat.testBit_two_pow_sub_one]; simpa using hj
  | (i, b, st, o) :: r, done, hv, h, j, hj => by
    simp only [orderOk] at h
    have fin : ∀ hv', orderOk (Nat.sub (2 ^ n) 1) r (Nat.lor done (2 ^ i)) hv' = true → done.testBit j = true ∨ ∃ x ∈ (i, b, st, o) :: r, x.1 = j := by
      intro hv' h'
      rcases orderOk_mem h' j hj with e | ⟨x, hx, e⟩
      · rw [lor_spec] at e
        simp only [Bool.or_eq_true, decide_eq_true_eq] at e
        rcases e with e | e
        · exact .inl e
        · exact .inr ⟨_, List.mem_cons_self, e⟩
      · exact .inr ⟨x, List.mem_cons_of_mem _ hx, e⟩
    split at h
    · exact fin _ h
    · exact fin _ h
    · cases h
theorem orderOk_head {full i b st : Nat} {o : Oper} {r : List DE} {done hv : Nat} (h : orderOk full ((i, b, st, o) :: r) done hv = true) :
    done.testBit i = false ∧ (∀ j, b.testBit j = true → done.testBit j = true) ∧ ∃ hv', orderOk full r (Nat.lor done (2 ^ i)) hv' = true ∧ (isBar o = true → hv'.testBit i = true) := by
  simp only [orderOk] at h
  split at h
  · rename_i e1 e2 e3 e4
    exact ⟨e1, fun j => covers_spec e2, _, h, fun _ => by rw [lor_spec]; simp⟩
  · rename_i e1 e2 e3 e4
    exact ⟨e1, fun j => covers_spec e2, _, h, fun hb => by rw [e4] at hb; cases hb⟩
  · cases h

theorem Dst.put {fr fr' : Fr} {o oi : Oper} {v u : AV} (h : Dst fr o v) (hp : fr.put oi.dst u = some fr') (hne : sameDst oi.dst o.dst = false) : Dst fr' o v := by
  intro d hd
  have := (put_some' hp).2.2 d
  rw [this]
  split
  · rename_i e
    rw [e, hd] at hne
    simp [sameDst] at hne
  · exact h d hd

theorem names_put {fr fr' : Fr} {ops : Array Oper} {o oi : Oper} {u : AV} (hp : fr.put oi.dst u = some fr') (hne : hasTmp oi.dst (namesOf ops.toList o) = false) :
    (∀ x ∈ o.op.operands, fr.ev x = fr'.ev x) ∧ wantedA fr ops o = wantedA fr' ops o := by
  refine names_agree fun t ht => ?_
  rw [(put_some' hp).2.2 t]
  split
  · rename_i e
    rw [hasTmp_iff.2 ⟨t, e, ht⟩] at hne; cases hne
  · rfl

/-- what was pending is pending still -/
theorem Pend.step {fr fr' : Fr} {s s' : St} {z z' : Seen} {i b : Nat} {o oi : Oper} {u : AV} (h : Pend P G ops fr s z i b o) (hp : fr.put oi.dst u = some fr') (hn : hasTmp oi.dst (namesOf ops.toList o) = false) (hd : sameDst oi.dst o.dst = false)
    (hr : ∀ v, (i, b, o.op, v) ∈ z.reads → readOp P G fr (addP (fun j => b.testBit j) s.h z.made) o.op = some v → (i, b, o.op, v) ∈ z'.reads ∧ readOp P G fr (addP (fun j => b.testBit j) s'.h z'.made) o.op = some v)
    (hm : ∀ x ∈ z.made, x ∈ z'.made) (hm' : ∀ k blk, (i, k, blk) ∈ z'.made → (i, k, blk) ∈ z.made) (hk : ∀ blk, (i, keyOf fr i, blk) ∈ z.made → hget s.h (keyOf fr i) = none → hget s'.h (keyOf fr i) = none) : Pend P G ops fr' s' z' i b o := by
  obtain ⟨⟨f1, f2, f3, _⟩, _, _⟩ := put_some' hp
  obtain ⟨hev, hw⟩ := names_put (ops := ops) hp hn
  have hkey : keyOf fr' i = keyOf fr i := by rw [key_eq, key_eq, f1, f2]
  obtain ⟨h0, h1⟩ := h
  refine ⟨fun d hd => by rw [f3]; exact h0 d hd, ?_⟩
  rw [← hw, hkey]
  have hno : NoMade z i → NoMade z' i := fun h k blk hm => h k blk (hm' k blk hm)
  rcases h1 with ⟨n1, h1, h2⟩ | ⟨h1, h2⟩
  · exact .inl ⟨hno n1, h1, h2.put hp hd⟩
  · refine .inr ⟨h1, ?_⟩
    rcases h2 with ⟨n1, c, v, h3, h4⟩ | ⟨n1, c, v, h3, h4, h5⟩ | ⟨c, v, blk, h3, h4, h5, h6⟩
    · exact .inl ⟨hno n1, c, v, by rw [← pure_cong hev]; exact h3, h4.put hp hd⟩
    · obtain ⟨q1, q2⟩ := hr v h3 h4
      exact .inr (.inl ⟨hno n1, c, v, q1, by rw [← read_cong hev]; exact q2, h5.put hp hd⟩)
    · exact .inr (.inr ⟨c, v, blk, hm _ h3, by rw [← alloc_cong hev]; exact h4, h5.put hp hd, hk blk h3 h6⟩)
end
end Go.Ai

namespace Go.Ai
open Go
variable {P : Program} {G : Glob} {base : Nat}
section
variable {ops : Array Oper} {bs : List Nat} {fno : Nat} {rc0 : Rc} {ρ0 : Map} {s0 : St} {w0 : World} {rest : List DE} {done hv : Nat} {fr : Fr} {s : St} {z : Seen} {L : Nat → Bool} {frL : Fr} {ρ : Map} {a : Act} {w : World}

theorem sameDst_symm {d e : Option Tmp} : sameDst d e = sameDst e d := by
  cases d <;> cases e <;> first | rfl | skip
  rename_i x y
  show Nat.beq x y = Nat.beq y x
  cases h : Nat.beq y x with
  | true => rw [Nat.eq_of_beq_eq_true h]; exact Nat.beq_refl _
  | false =>
    cases h' : Nat.beq x y with
    | false => rfl
    | true => rw [Nat.eq_of_beq_eq_true h', Nat.beq_refl] at h; cases h

theorem own_names (hN : NamesOk ops bs) {i b : Nat} {o : Oper} (ho : ops[i]? = some o) (hb : bs[i]? = some b) (hnb : isBar o = false) (hbd : b.testBit i = false) : hasTmp o.dst (namesOf ops.toList o) = false := by
  cases h : hasTmp o.dst (namesOf ops.toList o) with
  | false => rfl
  | true =>
    rcases hN.names i b o ho hb i b o ho hb h with h1 | ⟨h1, _⟩
    · rw [hbd] at h1; cases h1
    · rw [hnb] at h1; cases h1

/-- the evaluation goes ahead of the run -/
theorem Inv.virt {i b st : Nat} {o : Oper} (I : Inv P G base ops bs fno rc0 ρ0 s0 w0 ((i, b, st, o) :: rest) done hv fr s z L frL ρ a w) (hN : NamesOk ops bs) (hnb : isBar o = false) {fr' : Fr} {z' : Seen} {u : AV} (hp : fr.put o.dst u = some fr')
    (hadd : ∀ p : Nat → Bool, p i = false → addP p s.h z'.made = addP p s.h z.made) (hpend : Pend P G ops fr' s z' i b o) (hreads : ∀ x ∈ z.reads, x ∈ z'.reads) (hmade : ∀ x ∈ z.made, x ∈ z'.made) (hmade' : ∀ j k blk, (j, k, blk) ∈ z'.made → j ≠ i → (j, k, blk) ∈ z.made) (hmad : MadeOK fr' (Nat.lor done (2 ^ i)) z'.made) :
    ∃ hv', Inv P G base ops bs fno rc0 ρ0 s0 w0 rest (Nat.lor done (2 ^ i)) hv' fr' s z' L frL ρ a w := by
  obtain ⟨hdi, hbd, hv', hok, _⟩ := orderOk_head I.ok
  obtain ⟨ho, hb⟩ := I.ent _ List.mem_cons_self
  simp only at ho hb
  have hLi : L i = false := by
    cases h : L i with
    | false => rfl
    | true => have := I.ld i h; rw [hdi] at this; cases this
  have hin : i < ops.size := (Array.getElem?_eq_some_iff.1 ho).1
  obtain ⟨⟨f1, f2, f3, f4, f5⟩, _, fget⟩ := put_some' hp
  have hdone : ∀ j, (Nat.lor done (2 ^ i)).testBit j = true ↔ (done.testBit j = true ∨ j = i) := by
    intro j; rw [lor_spec, Bool.or_eq_true, decide_eq_true_eq]
    exact ⟨fun h => h.imp id Eq.symm, fun h => h.imp id Eq.symm⟩
  refine ⟨hv', ⟨fun x hx => I.ent x (List.mem_cons_of_mem _ hx), hok, I.cl, ?_, ?_, ?_, ?_, ?_, I.rf, ?_, ?_, hmad, ?_, ?_, ?_, ?_, ?_, ?_, ?_, ?_⟩⟩
  · intro j hj; rcases (hdone j).1 hj with h | h
    · exact I.dl j h
    · rw [h]; exact hin
  · intro j oj bj hj hoj hbj k hk
    refine (hdone k).2 (.inl ?_)
    rcases (hdone j).1 hj with h | h
    · exact I.db j oj bj h hoj hbj k hk
    · subst h; rw [hb] at hbj; cases hbj; exact hbd k hk
  · intro j hj; exact (hdone j).2 (.inl (I.ld j hj))
  · intro j oj hj hoj hbar
    rcases (hdone j).1 hj with h | h
    · exact I.hl j oj h hoj hbar
    · subst h; rw [ho] at hoj; cases hoj; rw [hnb] at hbar; cases hbar
  · obtain ⟨e1, e2, e3, e4, e5⟩ := I.fe
    exact ⟨by rw [e1, f1], by rw [e2, f2], by rw [e3, f3], by rw [e4, f4], by rw [e5, f5]⟩
  · intro t ht
    have hne : ¬ (o.dst = some t) := fun h => by
      have := ht i o ho h ((hdone i).2 (.inr rfl))
      rw [hLi] at this; cases this
    rw [fget t, if_neg hne]
    exact I.ag t fun j oj hoj hd hdj => ht j oj hoj hd ((hdone j).2 (.inl hdj))
  · intro j oj bj hj hLj hoj hbj
    by_cases hji : j = i
    · subst hji; rw [ho] at hoj; rw [hb] at hbj; cases hoj; cases hbj; exact hpend
    · have hdj : done.testBit j = true := ((hdone j).1 hj).resolve_right hji
      have hbji : bj.testBit i = false := by
        cases h : bj.testBit i with
        | false => rfl
        | true => have := I.db j oj bj hdj hoj hbj i h; rw [hdi] at this; cases this
      refine (I.pend j oj bj hdj hLj hoj hbj).step hp ?_ ?_ ?_ hmade (fun k blk hm => hmade' j k blk hm hji) (fun _ _ h => h)
      · cases h : hasTmp o.dst (namesOf ops.toList oj) with
        | false => rfl
        | true =>
          rcases hN.names j bj oj hoj hbj i b o ho hb h with h1 | ⟨h1, _⟩
          · rw [hbji] at h1; cases h1
          · rw [hnb] at h1; cases h1
      · cases h : sameDst o.dst oj.dst with
        | false => rfl
        | true =>
          rcases Nat.lt_trichotomy i j with hlt | heq | hlt
          · have := (hN.dsts i o ho j bj oj hoj hbj hlt h).1
            rw [hbji] at this; cases this
          · exact absurd heq.symm hji
          · rcases (hN.dsts j oj hoj i b o ho hb hlt (by rw [sameDst_symm]; exact h)).2 with h1 | h1
            · have := I.hl j oj hdj hoj h1
              rw [hLj] at this; cases this
            · rw [hnb] at h1; cases h1
      · intro v h1 h2
        exact ⟨hreads _ h1, by rw [hadd _ hbji]; exact h2⟩
  · rw [hadd L hLi]; exact I.rm
  · rw [hadd L hLi]; exact I.ad
  · intro k h1 h2 h3
    rw [f1, f2] at h1; rw [f1] at h2
    obtain ⟨j, h4, h5⟩ := I.fresh k h1 h2 h3
    exact ⟨j, h4, by rw [h5, key_eq, key_eq, f1, f2]⟩
  · rw [f1]; exact I.fn
  · rw [f1]; exact I.fno
  · rw [f4]; exact I.df
  · rw [f2]; exact I.klt
  · rw [f5]; exact I.nrc

def Stopped : List DE → Prop
  | [] => True
  | (_, _, _, o) :: _ => isBar o = true

theorem notBar {o : Oper} (h : isBar o = false) : clsOf o.op ≠ .heavy := by
  intro hc
  unfold isBar at h
  split at h
  · cases h
  · rw [(clsHeavy_iff o).2 hc] at h; cases h

theorem dst_of_put {fr fr' : Fr} {o : Oper} {v : AV} (hp : fr.put o.dst v = some fr') : Dst fr' o v := by
  intro d hd
  rw [(put_some' hp).2.2 d, if_pos hd]

theorem Inv.advance {call : CallF} {n : Nat} {outs : List (Ex × Fr × St)} (hN : NamesOk ops bs) : ∀ (rest : List DE) (done hv : Nat) (fr : Fr) (z : Seen),
    drawOps P G call ops n rest done fr s z = some outs → Inv P G base ops bs fno rc0 ρ0 s0 w0 rest done hv fr s z L frL ρ a w →
    ∃ rest' done' hv' fr' z', drawOps P G call ops n rest' done' fr' s z' = some outs ∧ Inv P G base ops bs fno rc0 ρ0 s0 w0 rest' done' hv' fr' s z' L frL ρ a w ∧ Stopped rest'
  | [], done, hv, fr, z, h, I => ⟨[], done, hv, fr, z, h, I, trivial⟩
  | (i, b, st, o) :: rest, done, hv, fr, z, h, I => by
    cases hbar : isBar o with
    | true => exact ⟨_, done, hv, fr, z, h, I, hbar⟩
    | false =>
      have hcls := notBar hbar
      obtain ⟨hdi, hbd, _⟩ := orderOk_head I.ok
      obtain ⟨ho, hb⟩ := I.ent _ List.mem_cons_self
      simp only at ho hb
      have hbi : b.testBit i = false := by
        cases h : b.testBit i with
        | false => rfl
        | true => have := hbd i h; rw [hdi] at this; cases this
      have hown := own_names hN ho hb hbar hbi
      have hnm : NoMade z i := fun k blk hm => by have := (I.mad.1 i k blk hm).2; rw [hdi] at this; cases this
      have mad0 : ∀ fr', fr'.fno = fr.fno → fr'.lc = fr.lc → MadeOK fr' (Nat.lor done (2 ^ i)) z.made := fun fr' e1 e2 =>
        ⟨fun j k blk hm => ⟨by rw [(I.mad.1 j k blk hm).1, key_eq, key_eq, e1, e2], by rw [lor_spec, (I.mad.1 j k blk hm).2]; rfl⟩, I.mad.2⟩
      simp only [drawOps] at h
      split at h
      · rename_i hw
        obtain ⟨fr', hp, hk⟩ := putK_spec h
        simp only [natC_eq] at hk
        obtain ⟨⟨f1, f2, f3, _⟩, fd, _⟩ := put_some' hp
        obtain ⟨_, hww⟩ := names_put (ops := ops) hp hown
        obtain ⟨hv', I'⟩ := I.virt hN hbar hp (z' := z) (fun _ _ => rfl) ⟨fun d hd => by rw [f3]; exact fd d hd, .inl ⟨hnm, by rw [← hww]; exact hw, dst_of_put hp⟩⟩ (fun _ h => h) (fun _ h => h) (fun _ _ _ h _ => h) (mad0 fr' f1 f2)
        exact Inv.advance hN rest _ hv' fr' z hk I'
      · rename_i hw
        unfold dOne at h
        split at h
        · rename_i hc
          cases hv0 : pureOp P fr o.op with
          | none => rw [hv0] at h; cases h
          | some v =>
            rw [hv0] at h
            simp only [putV] at h
            obtain ⟨fr', hp, hk⟩ := putK_spec h
            simp only [natC_eq] at hk
            obtain ⟨⟨f1, f2, f3, _⟩, fd, _⟩ := put_some' hp
            obtain ⟨hev, hww⟩ := names_put (ops := ops) hp hown
            obtain ⟨hv', I'⟩ := I.virt hN hbar hp (z' := z) (fun _ _ => rfl) ⟨fun d hd => by rw [f3]; exact fd d hd, .inr ⟨by rw [← hww]; exact hw, .inl ⟨hnm, hc, v, by rw [← pure_cong hev]; exact hv0, dst_of_put hp⟩⟩⟩ (fun _ h => h) (fun _ h => h) (fun _ _ _ h _ => h) (mad0 fr' f1 f2)
            exact Inv.advance hN rest _ hv' fr' z hk I'
        · rename_i hc
          cases hv0 : readOp P G fr (addMade b s.h z.made) o.op with
          | none => rw [hv0] at h; cases h
          | some v =>
            rw [hv0] at h
            obtain ⟨m, rd⟩ := z
            simp only [dRead] at h
            obtain ⟨fr', hp, hk⟩ := putK_spec h
            simp only [natC_eq] at hk
            obtain ⟨⟨f1, f2, f3, _⟩, fd, _⟩ := put_some' hp
            obtain ⟨hev, hww⟩ := names_put (ops := ops) hp hown
            rw [addMade_eq] at hv0
            obtain ⟨hv', I'⟩ := I.virt hN hbar hp (z' := ⟨m, (i, b, o.op, v) :: rd⟩) (fun _ _ => rfl) ⟨fun d hd => by rw [f3]; exact fd d hd, .inr ⟨by rw [← hww]; exact hw, .inr (.inl ⟨hnm, hc, v, List.mem_cons_self, by rw [← read_cong hev]; exact hv0, dst_of_put hp⟩)⟩⟩ (fun _ h => List.mem_cons_of_mem _ h) (fun _ h => h) (fun _ _ _ h _ => h) (mad0 fr' f1 f2)
            exact Inv.advance hN rest _ hv' fr' _ hk I'
        · rename_i hc
          cases hv0 : allocOp P fr (keyOf fr i) o.op with
          | none => rw [hv0] at h; cases h
          | some q =>
            obtain ⟨v, blk⟩ := q
            rw [hv0] at h
            obtain ⟨m, rd⟩ := z
            simp only [dAlloc] at h
            have hnone : hget s.h (keyOf fr i) = none := by
              cases hn : hget s.h (keyOf fr i) with
              | none => rfl
              | some x => rw [hn] at h; cases h
            rw [hnone] at h
            obtain ⟨fr', hp, hk⟩ := putK_spec h
            simp only [natC_eq] at hk
            obtain ⟨⟨f1, f2, f3, _⟩, fd, _⟩ := put_some' hp
            obtain ⟨hev, hww⟩ := names_put (ops := ops) hp hown
            have hkey : keyOf fr' i = keyOf fr i := by rw [key_eq, key_eq, f1, f2]
            have hmad : MadeOK fr' (Nat.lor done (2 ^ i)) ((i, keyOf fr i, blk) :: m) := by
              refine ⟨fun j k b' hm => ?_, fun j k b1 k' b2 h1 h2 => ?_⟩
              · rcases List.mem_cons.1 hm with e | e
                · cases e; exact ⟨hkey.symm, by rw [lor_spec]; simp⟩
                · exact (mad0 fr' f1 f2).1 j k b' e
              · have aux : ∀ k b', (i, k, b') ∈ m → False := fun k b' hm => by
                  have := (I.mad.1 i k b' hm).2; rw [hdi] at this; cases this
                rcases List.mem_cons.1 h1 with e | e <;> rcases List.mem_cons.1 h2 with e' | e'
                · cases e; cases e'; rfl
                · cases e; exact (aux _ _ e').elim
                · cases e'; exact (aux _ _ e).elim
                · exact I.mad.2 _ _ _ _ _ e e'
            obtain ⟨hv', I'⟩ := I.virt hN hbar hp (z' := ⟨(i, keyOf fr i, blk) :: m, rd⟩) (fun p hpi => by simp only [addP, hpi]) ⟨fun d hd => by rw [f3]; exact fd d hd, .inr ⟨by rw [← hww]; exact hw, .inr (.inr ⟨hc, v, blk, by rw [hkey]; exact List.mem_cons_self, by rw [hkey, ← alloc_cong hev]; exact hv0, dst_of_put hp, by rw [hkey]; exact hnone⟩)⟩⟩ (fun _ h => h) (fun _ h => List.mem_cons_of_mem _ h) (fun j k b' h hji => by
              rcases List.mem_cons.1 h with e | e
              · cases e; exact absurd rfl hji
              · exact e) hmad
            exact Inv.advance hN rest _ hv' fr' _ hk I'
        · rename_i hc; exact absurd hc hcls
end
end Go.Ai

namespace Go.Ai
open Go
variable {P : Program} {G : Glob} {base : Nat}

theorem addP_congr {p q : Nat → Bool} : ∀ {m : Made} {h : Heap}, (∀ j k blk, (j, k, blk) ∈ m → p j = q j) → addP p h m = addP q h m
  | [], h, _ => rfl
  | (j, k, blk) :: r, h, hc => by
    have e := hc j k blk List.mem_cons_self
    have ih : ∀ h', addP p h' r = addP q h' r := fun h' => addP_congr fun j' k' b' hm => hc j' k' b' (List.mem_cons_of_mem _ hm)
    simp only [addP, e, ih]
theorem lookM_congr {p q : Nat → Bool} {i : Nat} : ∀ {m : Made}, (∀ j blk, (j, i, blk) ∈ m → p j = q j) → lookM p i m = lookM q i m
  | [], _ => rfl
  | (j, k, blk) :: r, hc => by
    have ih : lookM p i r = lookM q i r := lookM_congr fun j' b' hm => hc j' b' (List.mem_cons_of_mem _ hm)
    simp only [lookM, ih]
    by_cases e : i = k
    · subst e
      have := hc j blk List.mem_cons_self
      simp only [true_and, this]
    · simp [e]

section
variable {ops : Array Oper} {bs : List Nat} {fno : Nat} {rc0 : Rc} {ρ0 : Map} {s0 : St} {w0 : World} {rest : List DE} {done hv : Nat} {fr : Fr} {s : St} {z : Seen} {L : Nat → Bool} {frL : Fr} {ρ : Map} {a : Act} {w : World}

def plus (L : Nat → Bool) (j : Nat) : Nat → Bool := fun k => L k || decide (k = j)
theorem plus_iff {L : Nat → Bool} {j k : Nat} : plus L j k = true ↔ (L k = true ∨ k = j) := by
  simp only [plus, Bool.or_eq_true, decide_eq_true_eq]

theorem Inv.key (I : Inv P G base ops bs fno rc0 ρ0 s0 w0 rest done hv fr s z L frL ρ a w) {j : Nat} (hj : j < ops.size) (hL : L j = false) : ρ (keyOf fr j) = none ∧ keyOf fr j < s.fc * KK ∧ Own fno (keyOf fr j) := by
  have e := key_eq fr j
  have h1 : (fr.fno + 1) * KK ≤ s.fc * KK := Nat.mul_le_mul_right _ I.fn
  have h2 := succ_KK fr.fno
  have hk := I.klt
  have hf := I.fno
  subst hf
  have hfr := I.fresh (keyOf fr j)
  generalize hkk : keyOf fr j = k at e hfr ⊢
  refine ⟨?_, by omega, ⟨by omega, by omega⟩⟩
  cases hρ : ρ k with
  | none => rfl
  | some x =>
    obtain ⟨i, h3, h4⟩ := hfr (by omega) (by omega) (by rw [hρ]; simp)
    have := key_inj (hkk.trans h4)
    subst this
    rw [hL] at h3; cases h3

/-- the run takes a step that the evaluation has taken -/
theorem Inv.exec (I : Inv P G base ops bs fno rc0 ρ0 s0 w0 rest done hv fr s z L frL ρ a w) {j : Nat} {o : Oper} (ho : ops[j]? = some o) (hdj : done.testBit j = true) (hLj : L j = false) (hed : ∀ e ∈ o.after.toList, Region.binds .any e = true → L e.on = true)
    {v : AV} {u : Value} {frL' : Fr} {ρ' : Map} {w' : World} (hp : frL.put o.dst v = some frL') (hdst : Dst fr o v) (ru : RV ρ' v u)
    (hadv : Adv base (fun i => i = keyOf fr j) ρ ⟨addP L s.h z.made, s.fc⟩ w ρ' ⟨addP (plus L j) s.h z.made, s.fc⟩ w') :
    Inv P G base ops bs fno rc0 ρ0 s0 w0 rest done hv fr s z (plus L j) frL' ρ' (a.put o.dst u) w' := by
  have hj : j < ops.size := (Array.getElem?_eq_some_iff.1 ho).1
  obtain ⟨_, hkey, hown⟩ := I.key hj hLj
  obtain ⟨⟨f1, f2, f3, f4, f5⟩, _, fget⟩ := put_some' hp
  obtain ⟨e1, e2, e3, e4, e5⟩ := I.fe
  refine ⟨I.ent, I.ok, ?_, I.dl, I.db, ?_, ?_, ⟨f1.trans e1, f2.trans e2, f3.trans e3, f4.trans e4, f5.trans e5⟩, ((I.rf.mono hadv.st.mono).put hp ru).1, ?_, ?_, I.mad, I.rm.adv hadv, ?_, ?_, I.fn, I.fno, ?_, I.klt, I.nrc⟩
  · intro i oi hi hoi e he hb
    refine plus_iff.2 ?_
    rcases plus_iff.1 hi with h | h
    · exact .inl (I.cl i oi h hoi e he hb)
    · subst h; rw [ho] at hoi; cases hoi; exact .inl (hed e he hb)
  · intro i hi
    rcases plus_iff.1 hi with h | h
    · exact I.ld i h
    · rw [h]; exact hdj
  · intro i oi h1 h2 h3; exact plus_iff.2 (.inl (I.hl i oi h1 h2 h3))
  · intro t ht
    rw [fget t]
    split
    · rename_i e; exact (hdst t e).symm
    · rename_i e
      refine I.ag t fun i oi hoi hd hdi => ?_
      rcases plus_iff.1 (ht i oi hoi hd hdi) with h | h
      · exact h
      · subst h; rw [ho] at hoi; cases hoi; exact absurd hd e
  · intro i oi bi h1 h2 h3 h4
    have : L i = false := by
      cases h : L i with
      | false => rfl
      | true => rw [plus_iff.2 (.inl h)] at h2; cases h2
    exact I.pend i oi bi h1 this h3 h4
  · exact I.ad.trans (hadv.mono fun i _ e => by rw [e]; exact hown)
  · intro k h1 h2 h3
    by_cases e : k = keyOf fr j
    · exact ⟨j, plus_iff.2 (.inr rfl), e⟩
    · have hlt : k < s.fc * KK := Nat.lt_of_lt_of_le h2 (Nat.mul_le_mul_right _ I.fn)
      rw [hadv.keep k hlt e] at h3
      obtain ⟨i, h4, h5⟩ := I.fresh k h1 h2 h3
      exact ⟨i, plus_iff.2 (.inl h4), h5⟩
  · rw [put_defers]; exact I.df.mono hadv.st.mono

/-- A STEP OF THE RUN THAT THE EVALUATION HAS TAKEN. -/
theorem Inv.pending (I : Inv P G base ops bs fno rc0 ρ0 s0 w0 rest done hv fr s z L frL ρ a w) (hN : NamesOk ops bs) (hB : Bef ops bs) {j b : Nat} {o : Oper} (ho : ops[j]? = some o) (hb : bs[j]? = some b) (hdj : done.testBit j = true) (hLj : L j = false)
    (hed : ∀ e ∈ o.after.toList, Region.binds .any e = true → L e.on = true) {K : Act → World → Prop} {Q : Exit → Act → World → Prop}
    (hK : ∀ frL' ρ' a' w', Inv P G base ops bs fno rc0 ρ0 s0 w0 rest done hv fr s z (plus L j) frL' ρ' a' w' → K a' w') : wpOp P ops Q j K a w := by
  have hbL := hB.sub I.cl j b o ho hb hed
  obtain ⟨hev, hw⟩ := I.agree hN hB ho hb hbL
  obtain ⟨hd, hcase⟩ := I.pend j o b hdj hLj ho hb
  have hj : j < ops.size := (Array.getElem?_eq_some_iff.1 ho).1
  obtain ⟨hfresh, hkey, hown⟩ := I.key hj hLj
  have hputL : ∀ v, ∃ frL', frL.put o.dst v = some frL' := fun v => put_ok frL o.dst v (fun t ht => by rw [I.fe.2.2.1]; exact hd t ht)
  have same : NoMade z j → addP (plus L j) s.h z.made = addP L s.h z.made := fun hn => addP_congr fun i k blk hm => by
    have : i ≠ j := fun e => by subst e; exact hn k blk hm
    simp [plus, this]
  have refl : NoMade z j → Adv base (fun i => i = keyOf fr j) ρ ⟨addP L s.h z.made, s.fc⟩ w ρ ⟨addP (plus L j) s.h z.made, s.fc⟩ w := fun hn => by
    rw [same hn]; exact Adv.refl I.rm.rh I.rm.hi
  unfold wpOp
  simp only [ho]
  rw [wantedA_sound I.rf ops o, hw]
  rcases hcase with ⟨n1, h1, h2⟩ | ⟨h1, hcase⟩
  · rw [h1]
    simp only [Bool.false_eq_true, if_false]
    obtain ⟨frL', hp⟩ := hputL .undef
    exact hK _ _ _ _ (I.exec ho hdj hLj hed hp h2 (rv_undef _) (refl n1))
  · rw [h1]
    simp only [if_true]
    left
    unfold Oper.wp
    rcases hcase with ⟨n1, c, v, h3, h4⟩ | ⟨n1, c, v, h3, h4, h5⟩ | ⟨c, v, blk, h3, h4, h5, h6⟩
    · obtain ⟨u, hu, ru⟩ := pure_sound I.rf ((pure_cong hev).trans h3)
      obtain ⟨frL', hp⟩ := hputL v
      rw [hu w, Oper.upon_value]
      exact hK _ _ _ _ (I.exec ho hdj hLj hed hp h4 ru (refl n1))
    · have hsub : RH ρ base (hget (addP (fun j => b.testBit j) s.h z.made)) w := I.rm.rh.sub fun i ab hg _ => I.mad.sub hbL hg
      obtain ⟨u, hu, ru⟩ := read_sound hsub I.rm.rg I.rf ((read_cong hev).trans h4)
      obtain ⟨frL', hp⟩ := hputL v
      rw [hu, Oper.upon_value]
      exact hK _ _ _ _ (I.exec ho hdj hLj hed hp h5 ru (refl n1))
    · obtain ⟨ob, k, u, h7, h8, h9⟩ := alloc_sound (key := keyOf fr j) I.rf hfresh ((alloc_cong hev).trans h4) w
      obtain ⟨frL', hp⟩ := hputL v
      rw [h7, Oper.upon_value]
      have hg : hget (addP (plus L j) s.h z.made) = hget (hset (addP L s.h z.made) (keyOf fr j) blk) := by
        rw [hget_upd]
        funext i
        rw [addP_get, addP_get]
        by_cases e : i = keyOf fr j
        · subst e
          rw [if_pos rfl, h6, Option.none_or]
          exact I.mad.look h3 (plus_iff.2 (.inr rfl))
        · rw [if_neg e]
          congr 1
          refine lookM_congr fun i' b' hm => ?_
          have : i' ≠ j := fun e' => by subst e'; exact e (I.mad.1 _ _ _ hm).1
          simp [plus, this]
      have hst := Stp.new (key := keyOf fr j) (k := k) (o := 0) I.rm.rh hfresh I.rm.bs h9
      refine hK _ _ _ _ (I.exec ho hdj hLj hed hp h5 h8 ⟨?_, Nat.le_refl _, fun i _ hn => by simp [ext, hn], fun i hi => ?_⟩)
      · show Stp ρ base _ w _ (hget (addP (plus L j) s.h z.made)) _
        rw [hg]; exact hst
      · have hi' : s.fc * KK ≤ i := hi
        have hne : i ≠ keyOf fr j := by omega
        simp only [ext, if_neg hne]; exact I.rm.hi i hi
end
end Go.Ai

namespace Go.Ai
open Go
variable {P : Program} {G : Glob} {base : Nat}

theorem drawOuts_val {f : AV → St → Res} {fr : Fr} {bh : Bool} : ∀ {l : List Out} {res : List (Ex × Fr × St)} {v : AV} {s : St}, drawOuts f fr bh l = some res → Out.val v s ∈ l → ∃ o', f v s = some o' ∧ ∀ x ∈ o', x ∈ res
  | [], _, _, _, _, h => by cases h
  | .val v0 s0 :: rest, res, v, s, h, hm => by
    simp only [drawOuts] at h
    split at h
    · cases h
    · rename_i a ha
      split at h
      · cases h
        rcases List.mem_cons.1 hm with e | e
        · cases e; exact ⟨_, ha, fun _ h => h⟩
        · cases e
      · split at h
        · cases h
        · rename_i b hb
          cases h
          rcases List.mem_cons.1 hm with e | e
          · cases e; exact ⟨_, ha, fun x h => List.mem_append_left _ h⟩
          · obtain ⟨o', h1, h2⟩ := drawOuts_val hb e
            exact ⟨o', h1, fun x hx => List.mem_append_right _ (h2 x hx)⟩
  | .pan v0 s0 :: rest, res, v, s, h, hm => by
    simp only [drawOuts] at h
    split at h
    · rename_i b _ hb
      cases h
      rcases List.mem_cons.1 hm with e | e
      · cases e
      · obtain ⟨o', h1, h2⟩ := drawOuts_val hb e
        exact ⟨o', h1, fun x hx => List.mem_cons_of_mem _ (h2 x hx)⟩
    · cases h
theorem drawOuts_pan {f : AV → St → Res} {fr : Fr} {bh : Bool} : ∀ {l : List Out} {res : List (Ex × Fr × St)} {v : AV} {s : St}, drawOuts f fr bh l = some res → Out.pan v s ∈ l → bh = true ∧ (Ex.pan v, fr, s) ∈ res
  | [], _, _, _, _, h => by cases h
  | .val v0 s0 :: rest, res, v, s, h, hm => by
    simp only [drawOuts] at h
    split at h
    · cases h
    · rename_i a ha
      split at h
      · cases h
        rcases List.mem_cons.1 hm with e | e
        · cases e
        · cases e
      · split at h
        · cases h
        · rename_i b hb
          cases h
          rcases List.mem_cons.1 hm with e | e
          · cases e
          · obtain ⟨h1, h2⟩ := drawOuts_pan hb e
            exact ⟨h1, List.mem_append_right _ h2⟩
  | .pan v0 s0 :: rest, res, v, s, h, hm => by
    simp only [drawOuts] at h
    split at h
    · rename_i b _ hb
      cases h
      rcases List.mem_cons.1 hm with e | e
      · cases e; exact ⟨rfl, List.mem_cons_self⟩
      · exact ⟨rfl, List.mem_cons_of_mem _ (drawOuts_pan hb e).2⟩
    · cases h

theorem readsOk_spec {fr : Fr} {h : Heap} {m : Made} : ∀ {l : List (Nat × Op × AV)}, readsOk P G fr h m l = true → ∀ b op v, (b, op, v) ∈ l → readOp P G fr (addP (fun j => b.testBit j) h m) op = some v
  | [], _, b, op, v, hm => by cases hm
  | (b0, op0, v0) :: rest, hr, b, op, v, hm => by
    simp only [readsOk] at hr
    split at hr
    · rename_i u hu
      split at hr
      · rename_i he
        rcases List.mem_cons.1 hm with e | e
        · cases e; rw [← addMade_eq, hu, avEq_eq he]
        · exact readsOk_spec hr b op v e
      · cases hr
    · cases hr
theorem readsLeft_mem {bx : Nat} : ∀ {l : List (Nat × Nat × Op × AV)} {r b : Nat} {op : Op} {v : AV}, (r, b, op, v) ∈ l → bx.testBit r = false → (b, op, v) ∈ readsLeft bx l
  | [], _, _, _, _, h, _ => by cases h
  | (r0, b0, op0, v0) :: rest, r, b, op, v, h, hb => by
    simp only [readsLeft]
    rcases List.mem_cons.1 h with e | e
    · cases e; rw [hb]; exact List.mem_cons_self
    · have := readsLeft_mem e hb
      split
      · exact this
      · exact List.mem_cons_of_mem _ this
theorem asideOk_spec {h1 h' : Heap} : ∀ {m : Made}, asideOk h1 h' m = true → ∀ j k blk, (j, k, blk) ∈ m → (hget h1 k = none ↔ hget h' k = none)
  | [], _, j, k, blk, hm => by cases hm
  | (j0, k0, b0) :: r, h, j, k, blk, hm => by
    simp only [asideOk] at h
    split at h
    · rename_i e1 e2
      rcases List.mem_cons.1 hm with e | e
      · cases e; simp [e1, e2]
      · exact asideOk_spec h j k blk e
    · rename_i e1 e2
      rcases List.mem_cons.1 hm with e | e
      · cases e; simp [e1, e2]
      · exact asideOk_spec h j k blk e
    · cases h

section
variable {ops : Array Oper} {bs : List Nat} {fno : Nat} {rc0 : Rc} {ρ0 : Map} {s0 : St} {w0 : World} {rest : List DE} {done hv : Nat} {fr : Fr} {s : St} {z : Seen} {L : Nat → Bool} {frL : Fr} {ρ : Map} {a : Act} {w : World}

/-- evaluation and run take a step together -/
theorem Inv.bar {i b st : Nat} {o : Oper} (I : Inv P G base ops bs fno rc0 ρ0 s0 w0 ((i, b, st, o) :: rest) done hv fr s z L frL ρ a w) (hN : NamesOk ops bs) (hLi : L i = false) (hed : ∀ e ∈ o.after.toList, Region.binds .any e = true → L e.on = true) (hbL : ∀ k, b.testBit k = true → L k = true)
    {v : AV} {u : Value} {fr' frL' : Fr} {s' : St} {ρ' : Map} {w' : World} (hp : fr.put o.dst v = some fr') (hpL : frL.put o.dst v = some frL') (ru : RV ρ' v u)
    (hadv : Adv base (fun k => k = keyOf fr i) ρ ⟨addP L s.h z.made, s.fc⟩ w ρ' ⟨addP (plus L i) s'.h z.made, s'.fc⟩ w')
    (hrd : ∀ j bj oj v, L j = false → (j, bj, oj, v) ∈ z.reads → readOp P G fr (addP (fun k => bj.testBit k) s.h z.made) oj = some v → readOp P G fr (addP (fun k => bj.testBit k) s'.h z.made) oj = some v)
    (hka : ∀ j k blk, L j = false → (j, k, blk) ∈ z.made → hget s.h k = none → hget s'.h k = none) :
    ∃ hv', Inv P G base ops bs fno rc0 ρ0 s0 w0 rest (Nat.lor done (2 ^ i)) hv' fr' s' z (plus L i) frL' ρ' (a.put o.dst u) w' := by
  obtain ⟨hdi, hbd, hv', hok, _⟩ := orderOk_head I.ok
  obtain ⟨ho, hb⟩ := I.ent _ List.mem_cons_self
  simp only at ho hb
  have hin : i < ops.size := (Array.getElem?_eq_some_iff.1 ho).1
  obtain ⟨_, hkey, hown⟩ := I.key hin hLi
  obtain ⟨⟨f1, f2, f3, f4, f5⟩, fd, fget⟩ := put_some' hp
  obtain ⟨⟨g1, g2, g3, g4, g5⟩, _, gget⟩ := put_some' hpL
  obtain ⟨e1, e2, e3, e4, e5⟩ := I.fe
  have hdone : ∀ j, (Nat.lor done (2 ^ i)).testBit j = true ↔ (done.testBit j = true ∨ j = i) := by
    intro j; rw [lor_spec, Bool.or_eq_true, decide_eq_true_eq]
    exact ⟨fun h => h.imp id Eq.symm, fun h => h.imp id Eq.symm⟩
  refine ⟨hv', ⟨fun x hx => I.ent x (List.mem_cons_of_mem _ hx), hok, ?_, ?_, ?_, ?_, ?_, ?_, ((I.rf.mono hadv.st.mono).put hpL ru).1, ?_, ?_, ?_, I.rm.adv hadv, ?_, ?_, ?_, ?_, ?_, ?_, ?_⟩⟩
  · intro k ok hk hook e he hbi
    refine plus_iff.2 ?_
    rcases plus_iff.1 hk with h | h
    · exact .inl (I.cl k ok h hook e he hbi)
    · subst h; rw [ho] at hook; cases hook; exact .inl (hed e he hbi)
  · intro j hj; rcases (hdone j).1 hj with h | h
    · exact I.dl j h
    · rw [h]; exact hin
  · intro j oj bj hj hoj hbj k hk
    refine (hdone k).2 (.inl ?_)
    rcases (hdone j).1 hj with h | h
    · exact I.db j oj bj h hoj hbj k hk
    · subst h; rw [hb] at hbj; cases hbj; exact hbd k hk
  · intro j hj
    rcases plus_iff.1 hj with h | h
    · exact (hdone j).2 (.inl (I.ld j h))
    · exact (hdone j).2 (.inr h)
  · intro j oj hj hoj hbar
    refine plus_iff.2 ?_
    rcases (hdone j).1 hj with h | h
    · exact .inl (I.hl j oj h hoj hbar)
    · exact .inr h
  · exact ⟨by rw [g1, e1, f1], by rw [g2, e2, f2], by rw [g3, e3, f3], by rw [g4, e4, f4], by rw [g5, e5, f5]⟩
  · intro t ht
    rw [fget t, gget t]
    split
    · rfl
    · refine I.ag t fun j oj hoj hd hdj => ?_
      rcases plus_iff.1 (ht j oj hoj hd ((hdone j).2 (.inl hdj))) with h | h
      · exact h
      · subst h; rw [hdi] at hdj; cases hdj
  · intro j oj bj hj hLj hoj hbj
    have hji : j ≠ i := fun e => by rw [plus_iff.2 (.inr e)] at hLj; cases hLj
    have hLj' : L j = false := by
      cases h : L j with
      | false => rfl
      | true => rw [plus_iff.2 (.inl h)] at hLj; cases hLj
    have hdj : done.testBit j = true := ((hdone j).1 hj).resolve_right hji
    have hbji : bj.testBit i = false := by
      cases h : bj.testBit i with
      | false => rfl
      | true => have := I.db j oj bj hdj hoj hbj i h; rw [hdi] at this; cases this
    have hbij : b.testBit j = false := by
      cases h : b.testBit j with
      | false => rfl
      | true => have := hbL j h; rw [hLj'] at this; cases this
    have hkj : keyOf fr j = keyOf fr j := rfl
    refine (I.pend j oj bj hdj hLj' hoj hbj).step hp ?_ ?_ ?_ (fun _ h => h) (fun _ _ h => h) (fun blk hm h => hka j _ blk hLj' hm h)
    · cases h : hasTmp o.dst (namesOf ops.toList oj) with
      | false => rfl
      | true =>
        rcases hN.names j bj oj hoj hbj i b o ho hb h with h1 | ⟨_, h1⟩
        · rw [hbji] at h1; cases h1
        · rw [hbij] at h1; cases h1
    · cases h : sameDst o.dst oj.dst with
      | false => rfl
      | true =>
        rcases Nat.lt_trichotomy i j with hlt | heq | hlt
        · have := (hN.dsts i o ho j bj oj hoj hbj hlt h).1
          rw [hbji] at this; cases this
        · exact absurd heq.symm hji
        · have := (hN.dsts j oj hoj i b o ho hb hlt (by rw [sameDst_symm]; exact h)).1
          rw [hbij] at this; cases this
    · intro v h1 h2
      exact ⟨h1, hrd j bj _ v hLj' h1 h2⟩
  · exact ⟨fun j k blk hm => ⟨by rw [(I.mad.1 j k blk hm).1, key_eq, key_eq, f1, f2], by rw [lor_spec, (I.mad.1 j k blk hm).2]; rfl⟩, I.mad.2⟩
  · exact I.ad.trans (hadv.mono fun k _ e => by rw [e]; exact hown)
  · intro k h1 h2 h3
    rw [f1, f2] at h1; rw [f1] at h2
    by_cases e : k = keyOf fr i
    · exact ⟨i, plus_iff.2 (.inr rfl), by rw [e, key_eq, key_eq, f1, f2]⟩
    · have hlt : k < s.fc * KK := Nat.lt_of_lt_of_le h2 (Nat.mul_le_mul_right _ I.fn)
      rw [hadv.keep k hlt e] at h3
      obtain ⟨j, h4, h5⟩ := I.fresh k h1 h2 h3
      exact ⟨j, plus_iff.2 (.inl h4), by rw [h5, key_eq, key_eq, f1, f2]⟩
  · rw [f1]; exact Nat.lt_of_lt_of_le I.fn hadv.fc
  · rw [f1]; exact I.fno
  · rw [f4, put_defers]; exact I.df.mono hadv.st.mono
  · rw [f2]; exact I.klt
  · rw [f5]; exact I.nrc
end
end Go.Ai

namespace Go.Ai
open Go
variable {P : Program} {G : Glob} {base : Nat}
section
variable {ops : Array Oper} {bs : List Nat} {fno : Nat} {rc0 : Rc} {ρ0 : Map} {s0 : St} {w0 : World} {rest : List DE} {done hv : Nat} {fr : Fr} {s : St} {z : Seen} {L : Nat → Bool} {frL : Fr} {ρ : Map} {a : Act} {w : World}

/-- A STEP THAT EVALUATION AND RUN TAKE TOGETHER. -/
theorem Inv.sync {call : CallF} (HC : CallOK P G base call) {n i b st : Nat} {o : Oper} {outs : List (Ex × Fr × St)} (I : Inv P G base ops bs fno rc0 ρ0 s0 w0 ((i, b, st, o) :: rest) done hv fr s z L frL ρ a w) (hN : NamesOk ops bs) (hB : Bef ops bs) (hbar : isBar o = true)
    (h : drawOps P G call ops n ((i, b, st, o) :: rest) done fr s z = some outs) (hed : ∀ e ∈ o.after.toList, Region.binds .any e = true → L e.on = true) {K : Act → World → Prop} {Q : Exit → Act → World → Prop}
    (hK : ∀ outs' hv' fr' s' frL' ρ' a' w', drawOps P G call ops n rest (Nat.lor done (2 ^ i)) fr' s' z = some outs' → (∀ x ∈ outs', x ∈ outs) → Inv P G base ops bs fno rc0 ρ0 s0 w0 rest (Nat.lor done (2 ^ i)) hv' fr' s' z (plus L i) frL' ρ' a' w' → K a' w')
    (hQ : ∀ v s' u w' ρ', (Ex.pan v, fr, s') ∈ outs → RV ρ' v u → RS G base KK ρ' fr s' a w' → Adv base (Own fno) ρ0 s0 w0 ρ' s' w' → Q (.panic [{ v := u, recovered := false }]) a w') : wpOp P ops Q i K a w := by
  obtain ⟨hdi, hbd, _⟩ := orderOk_head I.ok
  obtain ⟨ho, hb⟩ := I.ent _ List.mem_cons_self
  simp only at ho hb
  have hin : i < ops.size := (Array.getElem?_eq_some_iff.1 ho).1
  have hLi : L i = false := by
    cases h : L i with
    | false => rfl
    | true => have := I.ld i h; rw [hdi] at this; cases this
  have hbL := hB.sub I.cl i b o ho hb hed
  obtain ⟨hev, hw⟩ := I.agree hN hB ho hb hbL
  obtain ⟨hfresh, hkey, hown⟩ := I.key hin hLi
  have hnm : NoMade z i := fun k blk hm => by have := (I.mad.1 i k blk hm).2; rw [hdi] at this; cases this
  have hsame : ∀ h : Heap, addP (plus L i) h z.made = addP L h z.made := fun h => addP_congr fun j k blk hm => by
    have : j ≠ i := fun e => by subst e; exact hnm k blk hm
    simp [plus, this]
  have hputL : ∀ v fr', fr.put o.dst v = some fr' → ∃ frL', frL.put o.dst v = some frL' := fun v fr' hp => put_ok frL o.dst v (fun t ht => by rw [I.fe.2.2.1]; exact (put_some' hp).2.1 t ht)
  have plain : ∀ (v : AV) (u : Value) (fr' : Fr), RV ρ v u → fr.put o.dst v = some fr' → drawOps P G call ops n rest (Nat.lor done (2 ^ i)) fr' s z = some outs → K (a.put o.dst u) w := by
    intro v u fr' ru hp hk
    obtain ⟨frL', hpL⟩ := hputL v fr' hp
    obtain ⟨hv', I'⟩ := I.bar hN hLi hed hbL (s' := s) (ρ' := ρ) (w' := w) hp hpL ru (by rw [hsame]; exact Adv.refl I.rm.rh I.rm.hi) (fun _ _ _ _ _ _ h => h) (fun _ _ _ _ _ h => h)
    exact hK outs hv' fr' s frL' ρ _ w hk (fun _ h => h) I'
  unfold wpOp
  simp only [ho]
  rw [wantedA_sound I.rf ops o, hw]
  simp only [drawOps] at h
  split at h
  · rename_i hw0
    rw [hw0]
    simp only [Bool.false_eq_true, if_false]
    obtain ⟨fr', hp, hk⟩ := putK_spec h
    simp only [natC_eq] at hk
    exact plain .undef undef fr' (rv_undef _) hp hk
  · rename_i hw0
    rw [hw0]
    simp only [if_true]
    left
    unfold Oper.wp
    unfold dOne at h
    split at h
    · rename_i hc
      cases hv0 : pureOp P fr o.op with
      | none => rw [hv0] at h; cases h
      | some v =>
        rw [hv0] at h
        simp only [putV] at h
        obtain ⟨fr', hp, hk⟩ := putK_spec h
        simp only [natC_eq] at hk
        obtain ⟨u, hu, ru⟩ := pure_sound I.rf ((pure_cong hev).trans hv0)
        rw [hu w, Oper.upon_value]
        exact plain v u fr' ru hp hk
    · rename_i hc
      exfalso
      unfold isBar at hbar
      split at hbar
      · rename_i x e; rw [e] at hc; simp [clsOf] at hc
      · rw [(clsHeavy_iff o).1 hbar] at hc; cases hc
    · rename_i hc
      exfalso
      unfold isBar at hbar
      split at hbar
      · rename_i x e; rw [e] at hc; simp [clsOf] at hc
      · rw [(clsHeavy_iff o).1 hbar] at hc; cases hc
    · have hs1 : s.withH (addMade b s.h z.made) = ⟨addP (fun k => b.testBit k) s.h z.made, s.fc⟩ := by rw [St.withH_eq, addMade_eq]
      have hd2 : ∃ l, heavy P call fr (keyOf fr i) ⟨addP (fun k => b.testBit k) s.h z.made, s.fc⟩ o.op = some l ∧
          dHeavy2 P G o b done fr (addP (fun k => b.testBit k) s.h z.made) z (fun fr s z => natC (Nat.lor done (2 ^ i)) fun d => drawOps P G call ops n rest d fr s z) (some l) = some outs := by
        rw [hs1] at h
        unfold dHeavy at h
        split at h
        · cases h
        · cases hl : heavy P call fr (keyOf fr i) ⟨addP (fun k => b.testBit k) s.h z.made, s.fc⟩ o.op with
          | none => rw [hl] at h; cases h
          | some l => rw [hl] at h; exact ⟨l, rfl, h⟩
      obtain ⟨l, hl, hd2⟩ := hd2
      simp only [dHeavy2] at hd2
      have hsub : ∀ k ab, hget (addP (fun k => b.testBit k) s.h z.made) k = some ab → hget (addP L s.h z.made) k = some ab := fun k ab hg => I.mad.sub hbL hg
      have rm1 : RM G base ρ ⟨addP (fun k => b.testBit k) s.h z.made, s.fc⟩ w := ⟨I.rm.rh.sub fun k ab hg _ => hsub k ab hg, I.rm.rg, I.rm.bs, I.rm.hi⟩
      -- how a step there is a step here
      have lift : ∀ s' ρ' w', asideOk (addP (fun k => b.testBit k) s.h z.made) s'.h z.made = true → Adv base (fun k => k = keyOf fr i) ρ ⟨addP (fun k => b.testBit k) s.h z.made, s.fc⟩ w ρ' s' w' →
          Adv base (fun k => k = keyOf fr i) ρ ⟨addP L s.h z.made, s.fc⟩ w ρ' ⟨addP (plus L i) s'.h z.made, s'.fc⟩ w' := by
        intro s' ρ' w' has hadv
        refine ⟨Stp.frame I.rm.rh hsub hadv.st fun k ab hg hd => ?_, hadv.fc, hadv.keep, hadv.hi⟩
        rw [hsame] at hg
        simp only at hg
        rw [addP_get] at hg
        cases hh : hget s'.h k with
        | some x => rw [hh] at hg; left; simpa using hg
        | none =>
          right
          rw [hh, Option.none_or] at hg
          obtain ⟨j, hm, hj⟩ := lookM_some hg
          have h1 := (asideOk_spec has j k ab hm).2 hh
          refine ⟨h1, ?_⟩
          show hget (addP L s.h z.made) k = some ab
          rw [addP_get] at h1 ⊢
          cases hq : hget s.h k with
          | some x => rw [hq] at h1; simp at h1
          | none => rw [Option.none_or]; exact hg
      refine heavy_sound HC rm1 I.rf hfresh hkey ((heavy_cong hev).trans hl) ?_ ?_
      · intro v s' u w' ρ' hm hadv ru
        obtain ⟨o', h1, h2⟩ := drawOuts_val hd2 hm
        split at h1
        · rename_i hr1 hr2
          obtain ⟨fr', hp, hk⟩ := putK_spec h1
          simp only [natC_eq] at hk
          obtain ⟨frL', hpL⟩ := hputL v fr' hp
          obtain ⟨hv', I'⟩ := I.bar hN hLi hed hbL (s' := s') (ρ' := ρ') (w' := w') hp hpL ru (lift s' ρ' w' hr2 hadv) (fun j bj oj vj hLj hm _ => readsOk_spec hr1 bj oj vj (readsLeft_mem hm (by
              cases hq : b.testBit j with
              | false => rfl
              | true => have := hbL j hq; rw [hLj] at this; cases this))) (fun j k blk hLj hm hn => by
              refine (asideOk_spec hr2 j k blk hm).1 ?_
              rw [addP_get, hn, Option.none_or]
              cases hq : lookM (fun k => b.testBit k) k z.made with
              | none => rfl
              | some x =>
                obtain ⟨j', h3, h4⟩ := lookM_some hq
                have e1 := (I.mad.1 _ _ _ h3).1
                have e2 := (I.mad.1 _ _ _ hm).1
                have := key_inj (e1.symm.trans e2)
                subst this
                have := hbL j' h4
                rw [hLj] at this; cases this)
          exact hK o' hv' fr' s' frL' ρ' _ w' hk h2 I'
        · cases h1
      · intro v s' u w' ρ' hm hadv ru
        obtain ⟨h1, h2⟩ := drawOuts_pan hd2 hm
        have hall : ∀ j, done.testBit j = true → L j = true := fun j hj => hbL j (covers_spec h1 hj)
        have hbL' : addP (fun k => b.testBit k) s.h z.made = addP L s.h z.made := addP_congr fun j k blk hm => by
          have hdj := (I.mad.1 j k blk hm).2
          rw [covers_spec h1 hdj, hall j hdj]
        rw [hbL'] at hadv
        have hadv' : Adv base (Own fno) ρ0 s0 w0 ρ' s' w' := I.ad.trans (hadv.mono fun k _ e => by rw [e]; exact hown)
        have rf' : RF ρ' fr a := by
          have rfL := I.rf.mono hadv.st.mono
          refine ⟨by rw [rfL.size, I.fe.2.2.1], fun t => ?_⟩
          rw [← I.ag t fun j oj hoj hd hdj => hall j hdj]
          exact rfL.tmp t
        refine hQ v s' u w' ρ' h2 ru ⟨rf', I.rm.adv hadv, fun k h3 h4 => ?_, Nat.lt_of_lt_of_le I.fn hadv.fc, I.df.mono hadv.st.mono⟩ hadv'
        rw [succ_KK] at h4; omega
end
end Go.Ai

namespace Go.Ai
open Go
variable {P : Program} {G : Glob} {base : Nat}

def lst (listed : Array Bool) (i : Nat) : Bool := listed.getD i false
theorem lst_set {listed : Array Bool} {i : Nat} (h : i < listed.size) : lst (listed.setIfInBounds i true) = plus (lst listed) i := by
  funext k
  by_cases e : i = k
  · subst e; simp [lst, plus, h]
  · have : ¬ k = i := fun h => e h.symm
    simp only [lst, plus, decide_eq_false this, Bool.or_false]
    exact getD_set_ne false e

theorem all_listed {ops : Array Oper} {bs : List Nat} (hB : Bef ops bs) {L : Nat → Bool} (hr : ∀ i o, ops[i]? = some o → (∀ e ∈ o.after.toList, Region.binds .any e = true → L e.on = true) → L i = true) :
    ∀ {l : List DE} {done hv : Nat}, (∀ x ∈ l, ops[x.1]? = some x.2.2.2 ∧ bs[x.1]? = some x.2.1) → orderOk (Nat.sub (2 ^ ops.toList.length) 1) l done hv = true → (∀ j, done.testBit j = true → L j = true) → ∀ j, j < ops.size → L j = true
  | [], done, hv, _, h, hd, j, hj => by
    rcases orderOk_mem h j (by simpa using hj) with e | ⟨x, hx, _⟩
    · exact hd j e
    · cases hx
  | (i, b, st, o) :: r, done, hv, hent, h, hd, j, hj => by
    obtain ⟨hdi, hbd, hv', hok, _⟩ := orderOk_head h
    obtain ⟨ho, hb⟩ := hent _ List.mem_cons_self
    simp only at ho hb
    have hLi : L i = true := hr i o ho fun e he hbi => hd _ (hbd _ ((hB.spec i b o ho hb e.on).2 ⟨e, he, hbi, .inl rfl⟩))
    refine all_listed hB hr (fun x hx => hent x (List.mem_cons_of_mem _ hx)) hok (fun k hk => ?_) j hj
    rw [lor_spec, Bool.or_eq_true, decide_eq_true_eq] at hk
    rcases hk with h | h
    · exact hd k h
    · rw [← h]; exact hLi

theorem readOf_nil {ops : Array Oper} {listed : Array Bool} (hsz : listed.size = ops.size) (h : Region.ready .any ops listed = []) (i : Nat) (o : Oper) (ho : ops[i]? = some o) (hed : ∀ e ∈ o.after.toList, Region.binds .any e = true → lst listed e.on = true) : lst listed i = true := by
  cases hl : lst listed i with
  | true => rfl
  | false =>
    have hi : i < listed.size := by rw [hsz]; exact (Array.getElem?_eq_some_iff.1 ho).1
    have : i ∈ Region.ready .any ops listed := mem_ready.2 ⟨by simpa [lst, hi] using hl, o, ho, fun e he hb => hed e (by simpa using he) hb⟩
    rw [h] at this; cases this

section
variable {ops : Array Oper} {bs : List Nat} {fno : Nat} {rc0 : Rc} {ρ0 : Map} {s0 : St} {w0 : World}

/-- at the end -/
theorem Inv.fin {call : CallF} {rest : List DE} {done hv : Nat} {fr : Fr} {s : St} {z : Seen} {L : Nat → Bool} {frL : Fr} {ρ : Map} {a : Act} {w : World} {outs OUTS : List (Ex × Fr × St)} {cs0 cs : List Frame} (I : Inv P G base ops bs fno rc0 ρ0 s0 w0 rest done hv fr s z L frL ρ a w)
    (h : drawOps P G call ops ops.toList.length rest done fr s z = some outs) (hsub : ∀ x ∈ outs, x ∈ OUTS) (hcs : RCx ρ0 rc0 cs0 cs) (hall : ∀ j, j < ops.size → L j = true) : Post G base cs0 fno rc0 ρ0 s0 w0 OUTS .normal a cs w := by
  cases rest with
  | cons x r =>
    obtain ⟨i, b, st, o⟩ := x
    obtain ⟨hdi, _⟩ := orderOk_head I.ok
    obtain ⟨ho, _⟩ := I.ent _ List.mem_cons_self
    simp only at ho
    have := I.ld i (hall i (Array.getElem?_eq_some_iff.1 ho).1)
    rw [hdi] at this; cases this
  | nil =>
    simp only [drawOps, Option.some.injEq] at h
    subst h
    have hdone : ∀ j, done.testBit j = true → L j = true := fun j hj => hall j (I.dl j hj)
    have hA : s.withH (addAll s.h z.made) = ⟨addP L s.h z.made, s.fc⟩ := by
      rw [St.withH_eq, addAll_eq]
      congr 1
      exact addP_congr fun j k blk hm => (hdone j (I.mad.1 j k blk hm).2).symm
    have rf : RF ρ fr a := ⟨by rw [I.rf.size, I.fe.2.2.1], fun t => by rw [← I.ag t fun j oj hoj hd hdj => hdone j hdj]; exact I.rf.tmp t⟩
    have rs : RS G base ops.toList.length ρ fr ⟨addP L s.h z.made, s.fc⟩ a w := ⟨rf, I.rm, fun k h1 h2 => by
      cases hρ : ρ k with
      | none => rfl
      | some x =>
        obtain ⟨i, h3, h4⟩ := I.fresh k (by omega) h2 (by rw [hρ]; simp)
        have := I.dl i (I.ld i h3)
        rw [key_eq] at h4
        simp only [Array.length_toList] at h1
        omega, I.fn, I.df⟩
    obtain ⟨h1, h2, h3⟩ := bump_rs rs
    rw [hA] at hsub
    exact ⟨.normal, fr.bump ops.toList.length, _, ρ, hsub _ (List.mem_singleton.2 rfl), rfl, h1, I.ad, h2.trans I.fno, by rw [h3, I.nrc]; exact hcs.mono I.ad.st.mono, fun b hb => by rw [h3, I.nrc]; exact hb, fun h => by rw [h3, I.nrc]; exact h⟩

theorem any_sound {call : CallF} (HC : CallOK P G base call) (hN : NamesOk ops bs) (hB : Bef ops bs) {order : List DE} (hent : ∀ x ∈ order, ops[x.1]? = some x.2.2.2 ∧ bs[x.1]? = some x.2.1) (hord : orderOk (Nat.sub (2 ^ ops.toList.length) 1) order 0 0 = true)
    {cs0 cs : List Frame} {OUTS : List (Ex × Fr × St)} (hcs : RCx ρ0 rc0 cs0 cs) : ∀ (fuel : Nat) (listed : Array Bool) (U : List Nat) (rest : List DE) (done hv : Nat) (fr : Fr) (s : St) (z : Seen) (frL : Fr) (ρ : Map) (a : Act) (w : World) (outs : List (Ex × Fr × St)),
      listed.size = ops.size → U.length ≤ fuel → (∀ i, i < ops.size → lst listed i = false → i ∈ U) → Inv P G base ops bs fno rc0 ρ0 s0 w0 rest done hv fr s z (lst listed) frL ρ a w → drawOps P G call ops ops.toList.length rest done fr s z = some outs → (∀ x ∈ outs, x ∈ OUTS) →
      wpAny P .any ops (fun e a' w' => Post G base cs0 fno rc0 ρ0 s0 w0 OUTS e a' cs w') fuel listed a w := by
  intro fuel
  induction fuel with
  | zero =>
    intro listed U rest done hv fr s z frL ρ a w outs hsz hU hUn I h hsub
    have hall : ∀ j, j < ops.size → lst listed j = true := fun j hj => by
      cases hl : lst listed j with
      | true => rfl
      | false =>
        have := hUn j hj hl
        rw [List.length_eq_zero_iff.1 (Nat.le_zero.1 hU)] at this; cases this
    refine ⟨?_, I.fin h hsub hcs hall⟩
    cases hr : Region.ready .any ops listed with
    | nil => rfl
    | cons x xs =>
      have : x ∈ Region.ready .any ops listed := by rw [hr]; exact List.mem_cons_self
      obtain ⟨h1, o, ho, _⟩ := mem_ready.1 this
      have hx := (Array.getElem?_eq_some_iff.1 ho).1
      have h2 := hall x hx
      have hx' : x < listed.size := by rw [hsz]; exact hx
      simp [lst, hx'] at h1 h2
      rw [h1] at h2; cases h2
  | succ fuel ih =>
    intro listed U rest done hv fr s z frL ρ a w outs hsz hU hUn I h hsub
    refine ⟨fun hr => I.fin h hsub hcs (all_listed hB (readOf_nil hsz hr) hent hord fun j hj => by simp at hj), fun j hj => ?_⟩
    obtain ⟨h1, o, ho, hed⟩ := mem_ready.1 hj
    have hjn := (Array.getElem?_eq_some_iff.1 ho).1
    have hjs : j < listed.size := by rw [hsz]; exact hjn
    have hLj : lst listed j = false := by simpa [lst, hjs] using h1
    have hed' : ∀ e ∈ o.after.toList, Region.binds .any e = true → lst listed e.on = true := fun e he hb => hed e (by simpa using he) hb
    have hjb : j < bs.length := by rw [hB.len]; exact hjn
    have hb : bs[j]? = some bs[j] := by simp [hjb]
    have hUe : (U.erase j).length ≤ fuel := by
      have := hUn j hjn hLj
      rw [List.length_erase_of_mem this]; omega
    have hUn' : ∀ i, i < ops.size → lst (listed.setIfInBounds j true) i = false → i ∈ U.erase j := fun i hi hl => by
      rw [lst_set hjs] at hl
      have hij : i ≠ j := fun e => by rw [plus_iff.2 (.inr e)] at hl; cases hl
      have hl' : lst listed i = false := by
        cases hq : lst listed i with
        | false => rfl
        | true => rw [plus_iff.2 (.inl hq)] at hl; cases hl
      exact (List.mem_erase_of_ne hij).2 (hUn i hi hl')
    obtain ⟨rest', done', hv', fr', z', h', I', hstop⟩ := Inv.advance hN rest done hv fr z h I
    by_cases hdj : done'.testBit j = true
    · exact I'.pending hN hB ho hb hdj hLj hed' fun frL' ρ' a' w' I2 =>
        ih (listed.setIfInBounds j true) (U.erase j) rest' done' hv' fr' s z' frL' ρ' a' w' outs (by simp [hsz]) hUe hUn' (by rw [lst_set hjs]; exact I2) h' hsub
    · -- it is the first of those that are left
      rcases orderOk_mem I'.ok j (by simpa using hjn) with e | ⟨x, hx, hxj⟩
      · exact absurd e hdj
      · cases rest' with
        | nil => cases hx
        | cons y r =>
          obtain ⟨i, b, st, o'⟩ := y
          obtain ⟨hdi, hbd, hv2, hok2, hbar2⟩ := orderOk_head I'.ok
          have hbar : isBar o' = true := hstop
          have hji : j = i := by
            rcases List.mem_cons.1 hx with e | e
            · rw [e] at hxj; exact hxj.symm
            · exfalso
              have h3 := orderOk_hv hok2 x e i (hbar2 hbar)
              obtain ⟨hxo, hxb⟩ := I'.ent x (List.mem_cons_of_mem _ e)
              rw [hxj] at hxo hxb
              rw [ho] at hxo; cases hxo
              have := hB.sub I'.cl j x.2.1 _ ho hxb hed' i h3
              have := I'.ld i this
              rw [hdi] at this; cases this
          subst hji
          obtain ⟨hyo, hyb⟩ := I'.ent _ List.mem_cons_self
          simp only at hyo
          rw [ho] at hyo; cases hyo
          refine I'.sync HC hN hB hbar h' hed' ?_ ?_
          · intro outs' hv3 fr3 s3 frL3 ρ3 a3 w3 hk hs I3
            exact ih (listed.setIfInBounds j true) (U.erase j) r _ hv3 fr3 s3 z' frL3 ρ3 a3 w3 outs' (by simp [hsz]) hUe hUn' (by rw [lst_set hjs]; exact I3) hk (fun x hx => hsub x (hs x hx))
          · intro v s3 u w3 ρ3 hm ru rs hadv
            exact ⟨.pan v, fr', s3, ρ3, hsub _ hm, ⟨u, ru, rfl⟩, rs, hadv, I'.fno, by rw [I'.nrc]; exact hcs.mono hadv.st.mono, fun b hb => by rw [I'.nrc]; exact hb, fun h => by rw [I'.nrc]; exact h⟩

/-- A REGION THAT DRAWS ITS ORDER. -/
theorem drawn_sound {call : CallF} (HC : CallOK P G base call) (hm : P.follows .mixedOrders = true) {id : Nat} {fr : Fr} {s : St} {ρ : Map} {a : Act} {w : World} {outs : List (Ex × Fr × St)} {cs0 cs : List Frame} (h : drawn P G call ops (orderOf ops.toList) fr s = some outs) (hk : fr.lc + ops.size < KK)
    (rs : RS G base 0 ρ fr s a w) (hcs : RCx ρ fr.rc cs0 cs) : (Code.region id ops true).wp P (fun e a' w' => Post G base cs0 fr.fno fr.rc ρ s w outs e a' cs w') a w := by
  unfold drawn at h
  split at h
  · rename_i hok
    unfold drawOk at hok
    split at hok
    · rename_i hord
      have hB := bef_befores ops
      have hN := namesAll_ok hB.len hok
      refine wp_region_any hm ?_
      have hz : ∀ k : Nat, lst (Array.replicate ops.size false) k = false := fun k => by
        by_cases hk : k < ops.size <;> simp [lst, hk]
      have hL : addP (lst (Array.replicate ops.size false)) s.h [] = s.h := rfl
      have rm' : RM G base ρ s w.drew := ⟨⟨rs.rm.rh.blk, rs.rm.rh.inj⟩, rs.rm.rg, rs.rm.bs, rs.rm.hi⟩
      have I : Inv P G base ops (befores ops.toList []) fr.fno fr.rc ρ s w (orderOf ops.toList) 0 0 fr s ⟨[], []⟩ (lst (Array.replicate ops.size false)) fr ρ a w.drew :=
        ⟨fun x hx => orderOf_mem hx, hord, (fun i o h _ => absurd h (by simp [hz])), (fun i h => absurd h (by simp)), (fun i o b h => absurd h (by simp)), (fun i h => absurd h (by simp [hz])), (fun i o h => absurd h (by simp)), ⟨rfl, rfl, rfl, rfl, rfl⟩, rs.rf, fun _ _ => rfl, (fun i o b h => absurd h (by simp)),
          ⟨(fun j k blk h => absurd h (by simp)), (fun j k blk k' blk' h => absurd h (by simp))⟩, by rw [hL]; exact rm', by
            rw [hL]
            exact ⟨Stp.draw rs.rm.rh, Nat.le_refl _, fun _ _ _ => rfl, rs.rm.hi⟩, fun k h1 h2 h3 => absurd (rs.lo k (by omega) h2) h3, rs.fn, rfl, rs.df, hk, rfl⟩
      exact any_sound HC hN hB (fun x hx => orderOf_mem hx) hord hcs ops.size _ (List.range ops.size) _ 0 0 fr s _ fr ρ a _ outs (by simp) (by simp) (fun i hi _ => List.mem_range.2 hi) I h (fun _ h => h)
    · cases hok
  · cases h
end
end Go.Ai

namespace Go.Ai
open Go
variable {P : Program} {G : Glob} {base : Nat}

/-- code of a frame of the kind F -/
def WP (P : Program) (F : Frame → Prop) (c : Code) (Q : Exit → Act → List Frame → World → Prop) (a : Act) (cs : List Frame) (w : World) : Prop :=
  ∀ (b : Frame) (k : List Item), F b → ∃ e a' cs' w', Q e a' cs' w' ∧ Arrives P (lone (b.at a (.code c :: k)) cs w) b k cs' e a' w'

section
variable {F : Frame → Prop} {Q : Exit → Act → List Frame → World → Prop} {a : Act} {cs : List Frame} {w : World}

theorem WP.of_wp {c : Code} (h : c.wp P (fun e a' w' => Q e a' cs w') a w) : WP P F c Q a cs w :=
  fun b k _ => let ⟨e, a', w', q, r⟩ := h b k cs; ⟨e, a', cs, w', q, r⟩
theorem WP.of_wpS {c : Code} (hF : ∀ b, F b → b.kind = .deferred ∧ b.roundOf = none) (h : c.wpS P Q a cs w) : WP P F c Q a cs w :=
  fun b k hb => h b k (hF b hb).1 (hF b hb).2
theorem WP.kind {F' : Frame → Prop} {c : Code} (h : WP P F' c Q a cs w) (hF : ∀ b, F b → F' b) : WP P F c Q a cs w := fun b k hb => h b k (hF b hb)
theorem WP.mono {c : Code} {Q' : Exit → Act → List Frame → World → Prop} (h : WP P F c Q a cs w) (hq : ∀ e a' cs' w', Q e a' cs' w' → Q' e a' cs' w') : WP P F c Q' a cs w :=
  fun b k hb => let ⟨e, a', cs', w', q, r⟩ := h b k hb; ⟨e, a', cs', w', hq _ _ _ _ q, r⟩

theorem WP.seq {x y : Code} (h : WP P F x (Exit.thenS (WP P F y Q) Q) a cs w) : WP P F (.seq x y) Q a cs w := by
  intro b k hb
  obtain ⟨e, a₁, cs₁, w₁, hq, harr⟩ := h b (.code y :: k) hb
  cases e with
  | normal =>
    obtain ⟨e₂, a₂, cs₂, w₂, hq₂, harr₂⟩ := hq b k hb
    exact ⟨e₂, a₂, cs₂, w₂, hq₂, .of_steps (.head step_seq harr) harr₂⟩
  | exit id => exact ⟨_, a₁, cs₁, w₁, hq, .of_steps (.one step_seq) (.pass (x := .code y) rfl (fun _ _ => .inl (by simp)) harr)⟩
  | goto l => exact ⟨_, a₁, cs₁, w₁, hq, .of_steps (.one step_seq) (.pass (x := .code y) rfl (fun _ _ => .inl (by simp)) harr)⟩
  | ret => exact ⟨_, a₁, cs₁, w₁, hq, .of_steps (.one step_seq) (.pass (x := .code y) rfl (fun _ _ => .inl (by simp)) harr)⟩
  | panic ch => exact ⟨_, a₁, cs₁, w₁, hq, .of_steps (.one step_seq) (.pass (x := .code y) rfl (fun _ _ => .inl (by simp)) harr)⟩
  | outgrown => exact ⟨_, a₁, cs₁, w₁, hq, .of_steps (.one step_seq) (.pass (x := .code y) rfl (fun _ _ => .inl (by simp)) harr)⟩
theorem WP.cond {c : Operand} {x y : Code} {t : Bool} (hc : a.eval c = .bool t) (h : WP P F (if t then x else y) Q a cs w) : WP P F (.cond c x y) Q a cs w :=
  fun b k hb => let ⟨e, a', cs', w', q, r⟩ := h b k hb; ⟨e, a', cs', w', q, .of_steps (.one (step_cond hc)) r⟩

def inBlockS (id : Nat) (Q : Exit → Act → List Frame → World → Prop) : Exit → Act → List Frame → World → Prop
  | .exit id', a, cs, w => if id' = id then Q .normal a cs w else Q (.exit id') a cs w
  | e, a, cs, w => Q e a cs w
theorem WP.block {id : Nat} {c : Code} (h : WP P F c (inBlockS id Q) a cs w) : WP P F (.block id c) Q a cs w := by
  intro b k hb
  obtain ⟨e, a₁, cs₁, w₁, hq, harr⟩ := h b (.inBlock id :: k) hb
  cases e with
  | normal => exact ⟨.normal, a₁, cs₁, w₁, hq, .head step_block (Steps.trans harr (.one step_inBlock))⟩
  | exit id' =>
    by_cases hid : id' = id
    · simp only [inBlockS, hid, if_true] at hq
      exact ⟨.normal, a₁, cs₁, w₁, hq, .head step_block (harr k (by simp [exitTo, hid]))⟩
    · simp only [inBlockS, hid, if_false] at hq
      refine ⟨.exit id', a₁, cs₁, w₁, hq, fun k' hk => .head step_block (harr k' ?_)⟩
      have : (id == id') = false := by simp; exact fun h => hid h.symm
      simp [exitTo, this, hk]
  | goto l => exact ⟨_, a₁, cs₁, w₁, hq, fun k' hk => .head step_block (harr k' (by simp [gotoIn, hk]))⟩
  | ret => exact ⟨_, a₁, cs₁, w₁, hq, .of_steps (.one step_block) harr⟩
  | panic ch => exact ⟨_, a₁, cs₁, w₁, hq, .of_steps (.one step_block) harr⟩
  | outgrown => exact ⟨_, a₁, cs₁, w₁, hq, .of_steps (b := b) (k := k) (cs := cs₁) (e := .outgrown) (.one step_block) harr⟩

/-- so many rounds at the most -/
def Rounds (P : Program) (F : Frame → Prop) (c : Code) (Q : Exit → Act → List Frame → World → Prop) : Nat → Act → List Frame → World → Prop
  | 0, _, _, _ => False
  | n + 1, a, cs, w => WP P F c (Exit.thenS (Rounds P F c Q n) Q) a cs w
theorem WP.loop {c : Code} {n : Nat} (h : Rounds P F c Q n a cs w) : WP P F (.loop c) Q a cs w := by
  intro b k hb
  have key : ∀ n a cs w, Rounds P F c Q n a cs w → ∃ e a' cs' w', Q e a' cs' w' ∧ Arrives P (lone (b.at a (.code c :: .inLoop c :: k)) cs w) b k cs' e a' w' := by
    intro n
    induction n with
    | zero => intro a cs w h; exact h.elim
    | succ n ih =>
      intro a cs w h
      obtain ⟨e, a₁, cs₁, w₁, hq, harr⟩ := h b (.inLoop c :: k) hb
      cases e with
      | normal =>
        obtain ⟨e₂, a₂, cs₂, w₂, hq₂, harr₂⟩ := ih a₁ cs₁ w₁ hq
        exact ⟨e₂, a₂, cs₂, w₂, hq₂, .of_steps (Steps.trans harr (.one step_inLoop)) harr₂⟩
      | exit id => exact ⟨_, a₁, cs₁, w₁, hq, .pass (x := .inLoop c) rfl (fun _ _ => .inl (by simp)) harr⟩
      | goto l => exact ⟨_, a₁, cs₁, w₁, hq, .pass (x := .inLoop c) rfl (fun _ _ => .inl (by simp)) harr⟩
      | ret => exact ⟨_, a₁, cs₁, w₁, hq, .pass (x := .inLoop c) rfl (fun _ _ => .inl (by simp)) harr⟩
      | panic ch => exact ⟨_, a₁, cs₁, w₁, hq, .pass (x := .inLoop c) rfl (fun _ _ => .inl (by simp)) harr⟩
      | outgrown => exact ⟨_, a₁, cs₁, w₁, hq, .pass (x := .inLoop c) rfl (fun _ _ => .inl (by simp)) harr⟩
  obtain ⟨e, a', cs', w', hq, harr⟩ := key n a cs w h
  exact ⟨e, a', cs', w', hq, .of_steps (.one step_loop) harr⟩
end

theorem bindR_go {f : Ex → Fr → St → Res} : ∀ {l res : List (Ex × Fr × St)} {e : Ex} {fr : Fr} {s : St}, bindR.go f l = some res → (e, fr, s) ∈ l → ∃ o', f e fr s = some o' ∧ ∀ x ∈ o', x ∈ res
  | [], _, _, _, _, _, h => by cases h
  | (e0, fr0, s0) :: rest, res, e, fr, s, h, hm => by
    simp only [bindR.go] at h
    split at h
    · cases h
    · rename_i a ha
      split at h
      · cases h
        rcases List.mem_cons.1 hm with q | q
        · cases q; exact ⟨_, ha, fun _ h => h⟩
        · cases q
      · split at h
        · cases h
        · rename_i b hb
          cases h
          rcases List.mem_cons.1 hm with q | q
          · cases q; exact ⟨_, ha, fun x h => List.mem_append_left _ h⟩
          · obtain ⟨o', h1, h2⟩ := bindR_go hb q
            exact ⟨o', h1, fun x hx => List.mem_append_right _ (h2 x hx)⟩
theorem bindR_spec {f : Ex → Fr → St → Res} {r : Res} {res : List (Ex × Fr × St)} (h : bindR r f = some res) : ∃ l, r = some l ∧ ∀ e fr s, (e, fr, s) ∈ l → ∃ o', f e fr s = some o' ∧ ∀ x ∈ o', x ∈ res := by
  unfold bindR at h
  split at h
  · cases h
  · rename_i l
    exact ⟨l, rfl, fun e fr s hm => bindR_go h hm⟩

section
variable {cs0 : List Frame}
theorem Post.trans {fno : Nat} {rc0 : Rc} {ρ0 ρ : Map} {s0 s : St} {w0 w : World} {fr : Fr} {outs OUTS : List (Ex × Fr × St)} {e : Exit} {a' : Act} {cs' : List Frame} {w' : World} (hadv : Adv base (Own fno) ρ0 s0 w0 ρ s w) (hf : fr.fno = fno) (hF : ∀ b, FrOK rc0 b → FrOK fr.rc b) (hn : rc0 = .no → fr.rc = .no)
    (h : Post G base cs0 fr.fno fr.rc ρ s w outs e a' cs' w') (hs : ∀ x ∈ outs, x ∈ OUTS) : Post G base cs0 fno rc0 ρ0 s0 w0 OUTS e a' cs' w' := by
  obtain ⟨x, fr', s', ρ', h1, h2, h3, h4, h5, h6, h7, h8⟩ := h
  rw [hf] at h4
  exact ⟨x, fr', s', ρ', hs _ h1, h2, h3, hadv.trans h4, h5.trans hf, h6, fun b hb => h7 b (hF b hb), fun hh => h8 (hn hh)⟩

theorem keysOk_spec {fr : Fr} {n : Nat} (h : keysOk fr n = true) : fr.lc + n < KK := by
  have h : fr.lc + n ≤ 1267650600228229401496703205375 := by
    unfold keysOk at h
    exact Nat.le_of_ble_eq_true h
  unfold KK; omega

/-- A REGION. -/
theorem region_sound {call : CallF} (HC : CallOK P G base call) (hm : P.follows .mixedOrders = true) {id : Nat} {ops : Array Oper} {draw : Bool} {fr : Fr} {s : St} {ρ : Map} {a : Act} {cs : List Frame} {w : World} {outs : List (Ex × Fr × St)} (h : region P G call ops draw fr s = some outs)
    (rs : RS G base 0 ρ fr s a w) (hcs : RCx ρ fr.rc cs0 cs) : WP P (FrOK fr.rc) (.region id ops draw) (Post G base cs0 fr.fno fr.rc ρ s w outs) a cs w := by
  unfold region at h
  split at h
  · rename_i hk
    have hk := keysOk_spec hk
    simp only [Array.length_toList] at hk
    have hadv := Adv.refl (ok := Own fr.fno) rs.rm.rh rs.rm.hi
    have hr : List.range ops.size = List.range' 0 ops.toList.length := by rw [List.range_eq_range', Array.length_toList]
    cases hrc : fr.rc with
    | no =>
      rw [hrc] at hcs
      have hcs' : cs = cs0 := hcs
      subst hcs'
      refine WP.of_wp (wp_region ?_)
      rw [hr]
      exact text_sound HC ops.toList 0 fr s outs h (by simp) (fun _ h => h) hk hrc rfl ρ a w rs hadv
    | idle =>
      refine WP.of_wpS (fun b hb => hb) (wpS_region ?_)
      rw [hr, ← hrc]
      exact text_soundS HC ops.toList 0 fr s outs h (by simp) (fun _ h => h) hk rfl (by rw [hrc]; simp) (fun h => h) ρ a cs w rs hadv hcs
    | live v d =>
      refine WP.of_wpS (fun b hb => hb) (wpS_region ?_)
      rw [hr, ← hrc]
      exact text_soundS HC ops.toList 0 fr s outs h (by simp) (fun _ h => h) hk rfl (by rw [hrc]; simp) (fun h => h) ρ a cs w rs hadv hcs
  · rename_i hk
    have hk := keysOk_spec hk
    simp only [Array.length_toList] at hk
    exact WP.of_wp (drawn_sound HC hm h hk rs hcs)
  · cases h

/-- THE CODE. -/
theorem code_sound {call : CallF} (HC : CallOK P G base call) (hm : P.follows .mixedOrders = true) (m : Nat) : ∀ (c : Code) (fr : Fr) (s : St) (outs : List (Ex × Fr × St)), code P G call m c fr s = some outs →
    ∀ (ρ : Map) (a : Act) (cs : List Frame) (w : World), RS G base 0 ρ fr s a w → RCx ρ fr.rc cs0 cs → WP P (FrOK fr.rc) c (Post G base cs0 fr.fno fr.rc ρ s w outs) a cs w := by
  intro c
  have one : ∀ (x : Ex) (e : Exit) (fr : Fr) (s : St) (outs : List (Ex × Fr × St)), offOf x = 0 → some [(x, fr, s)] = some outs → ∀ (ρ : Map) (a : Act) (cs : List Frame) (w : World), RX ρ x e → RS G base 0 ρ fr s a w → RCx ρ fr.rc cs0 cs → Post G base cs0 fr.fno fr.rc ρ s w outs e a cs w := by
    intro x e fr s outs h0 h ρ a cs w hx rs hcs
    cases h
    exact ⟨x, fr, s, ρ, List.mem_singleton.2 rfl, hx, by rw [h0]; exact rs, Adv.refl rs.rm.rh rs.rm.hi, rfl, hcs, fun _ h => h, fun h => h⟩
  induction c with
  | skip => intro fr s outs h ρ a cs w rs hcs; exact WP.of_wp (wp_skip (one .normal .normal fr s outs rfl h ρ a cs w rfl rs hcs))
  | label l => intro fr s outs h ρ a cs w rs hcs; exact WP.of_wp (wp_label (one .normal .normal fr s outs rfl h ρ a cs w rfl rs hcs))
  | region id ops draw => intro fr s outs h ρ a cs w rs hcs; exact region_sound HC hm h rs hcs
  | seq x y ihx ihy =>
    intro fr s outs h ρ a cs w rs hcs
    rw [code] at h
    obtain ⟨l, hl, hall⟩ := bindR_spec h
    refine WP.seq ((ihx fr s l hl ρ a cs w rs hcs).mono ?_)
    rintro e a' cs' w' ⟨x', fr', s', ρ', h1, h2, h3, h4, h5, h6, h7, h8⟩
    obtain ⟨o', ho, hsub⟩ := hall x' fr' s' h1
    cases x' with
    | normal =>
      have he : e = .normal := h2
      subst he
      exact ((ihy fr' s' o' ho ρ' a' cs' w' h3 h6).kind h7).mono fun e2 a2 cs2 w2 hp => hp.trans h4 h5 h7 h8 hsub
    | exit j =>
      have he : e = .exit j := h2
      subst he
      cases ho
      exact ⟨_, fr', s', ρ', hsub _ (List.mem_singleton.2 rfl), rfl, h3, h4, h5, h6, h7, h8⟩
    | ret =>
      have he : e = .ret := h2
      subst he
      cases ho
      exact ⟨_, fr', s', ρ', hsub _ (List.mem_singleton.2 rfl), rfl, h3, h4, h5, h6, h7, h8⟩
    | pan v =>
      obtain ⟨u, ru, he⟩ := h2
      subst he
      cases ho
      exact ⟨_, fr', s', ρ', hsub _ (List.mem_singleton.2 rfl), ⟨u, ru, rfl⟩, h3, h4, h5, h6, h7, h8⟩
  | cond c x y ihx ihy =>
    intro fr s outs h ρ a cs w rs hcs
    rw [code] at h
    split at h
    · rename_i hc
      have := rs.rf.ev hc
      exact WP.cond (t := true) this (ihx fr s outs h ρ a cs w rs hcs)
    · rename_i hc
      have := rs.rf.ev hc
      exact WP.cond (t := false) this (ihy fr s outs h ρ a cs w rs hcs)
    · cases h
  | block id x ih =>
    intro fr s outs h ρ a cs w rs hcs
    rw [code] at h
    obtain ⟨l, hl, hall⟩ := bindR_spec h
    refine WP.block ((ih fr s l hl ρ a cs w rs hcs).mono ?_)
    rintro e a' cs' w' ⟨x', fr', s', ρ', h1, h2, h3, h4, h5, h6, h7, h8⟩
    obtain ⟨o', ho, hsub⟩ := hall x' fr' s' h1
    cases x' with
    | normal =>
      have he : e = .normal := h2
      subst he
      cases ho
      exact ⟨_, fr', s', ρ', hsub _ (List.mem_singleton.2 rfl), rfl, h3, h4, h5, h6, h7, h8⟩
    | exit j =>
      have he : e = .exit j := h2
      subst he
      simp only at ho
      simp only [inBlockS]
      split at ho
      · rename_i hj
        cases ho
        rw [if_pos (Nat.eq_of_beq_eq_true hj)]
        exact ⟨_, fr', s', ρ', hsub _ (List.mem_singleton.2 rfl), rfl, h3, h4, h5, h6, h7, h8⟩
      · rename_i hj
        cases ho
        rw [if_neg (by intro e; subst e; simp at hj)]
        exact ⟨_, fr', s', ρ', hsub _ (List.mem_singleton.2 rfl), rfl, h3, h4, h5, h6, h7, h8⟩
    | ret =>
      have he : e = .ret := h2
      subst he
      cases ho
      exact ⟨_, fr', s', ρ', hsub _ (List.mem_singleton.2 rfl), rfl, h3, h4, h5, h6, h7, h8⟩
    | pan v =>
      obtain ⟨u, ru, he⟩ := h2
      subst he
      cases ho
      exact ⟨_, fr', s', ρ', hsub _ (List.mem_singleton.2 rfl), ⟨u, ru, rfl⟩, h3, h4, h5, h6, h7, h8⟩
  | loop x ih =>
    intro fr s outs h ρ a cs w rs hcs
    rw [code] at h
    refine WP.loop (n := m) ?_
    have rounds : ∀ (n : Nat) (fr : Fr) (s : St) (outs : List (Ex × Fr × St)), iter (code P G call m x) n fr s = some outs → ∀ (ρ : Map) (a : Act) (cs : List Frame) (w : World), RS G base 0 ρ fr s a w → RCx ρ fr.rc cs0 cs →
        ∀ (F : Frame → Prop) (Q : Exit → Act → List Frame → World → Prop), (∀ b, F b → FrOK fr.rc b) → (∀ e a' cs' w', Post G base cs0 fr.fno fr.rc ρ s w outs e a' cs' w' → Q e a' cs' w') → Rounds P F x Q n a cs w := by
      intro n
      induction n with
      | zero => intro fr s outs h; simp [iter] at h
      | succ n ihn =>
        intro fr s outs h ρ a cs w rs hcs F Q hF hQ
        rw [iter] at h
        obtain ⟨l, hl, hall⟩ := bindR_spec h
        refine ((ih fr s l hl ρ a cs w rs hcs).kind hF).mono ?_
        rintro e a' cs' w' ⟨x', fr', s', ρ', h1, h2, h3, h4, h5, h6, h7, h8⟩
        obtain ⟨o', ho, hsub⟩ := hall x' fr' s' h1
        cases x' with
        | normal =>
          have he : e = .normal := h2
          subst he
          exact ihn fr' s' o' ho ρ' a' cs' w' h3 h6 F Q (fun b hb => h7 b (hF b hb)) fun e2 a2 cs2 w2 hp => hQ _ _ _ _ (hp.trans h4 h5 h7 h8 hsub)
        | exit j =>
          have he : e = .exit j := h2
          subst he
          cases ho
          exact hQ _ _ _ _ ⟨_, fr', s', ρ', hsub _ (List.mem_singleton.2 rfl), rfl, h3, h4, h5, h6, h7, h8⟩
        | ret =>
          have he : e = .ret := h2
          subst he
          cases ho
          exact hQ _ _ _ _ ⟨_, fr', s', ρ', hsub _ (List.mem_singleton.2 rfl), rfl, h3, h4, h5, h6, h7, h8⟩
        | pan v =>
          obtain ⟨u, ru, he⟩ := h2
          subst he
          cases ho
          exact hQ _ _ _ _ ⟨_, fr', s', ρ', hsub _ (List.mem_singleton.2 rfl), ⟨u, ru, rfl⟩, h3, h4, h5, h6, h7, h8⟩
    exact rounds m fr s outs h ρ a cs w rs hcs _ _ (fun _ h => h) (fun _ _ _ _ h => h)
  | exit id => intro fr s outs h ρ a cs w rs hcs; exact WP.of_wp (wp_exit (one (.exit id) (.exit id) fr s outs rfl h ρ a cs w rfl rs hcs))
  | ret => intro fr s outs h ρ a cs w rs hcs; exact WP.of_wp (wp_ret (one .ret .ret fr s outs rfl h ρ a cs w rfl rs hcs))
  | _ => intro fr s outs h; simp [code] at h
end
end Go.Ai

namespace Go.Ai
open Go
variable {P : Program} {G : Glob} {base : Nat}

/-! ### results -/
def resF (tmps : Array Value) : ResultVar → Sem Value
  | .tmp t => pure (tmps.getD t undef)
  | .cell a t => do loadVar t (← asAddr (tmps.getD a undef))
theorem resultsA_sound {ρ : Map} {fr : Fr} {s : St} {a : Act} {w : World} (rf : RF ρ fr a) (rm : RM G base ρ s w) : ∀ {rs : List ResultVar} {vs : List AV}, resultsA P G fr s.h rs = some vs → ∃ us, (rs.mapM (resF a.tmps)).run P w = .ok us w ∧ RVs ρ vs us
  | [], vs, h => by simp [resultsA] at h; subst h; exact ⟨[], rfl, rfl⟩
  | r :: rs, vs, h => by
    simp only [resultsA] at h
    split at h
    · rename_i v vs' hv hvs
      cases h
      obtain ⟨us, h1, h2⟩ := resultsA_sound rf rm hvs
      have hone : ∃ u, (resF a.tmps r).run P w = .ok u w ∧ RV ρ v u := by
        cases r with
        | tmp t =>
          simp only [resultA] at hv
          exact ⟨_, rfl, rf.ev hv⟩
        | cell t ty =>
          simp only [resultA] at hv
          split at hv
          · rename_i p hp
            obtain ⟨u, _, ru, ad, had, hl⟩ := loadA_rv rm.rh rm.rg hv (rf.ev hp)
            have had' : a.tmps.getD t undef = .pointer (some ad) := had
            refine ⟨u, ?_, ru⟩
            simp only [resF, had', asAddr, Sem.run_bind, Sem.run_pure, Result.andThen_ok, hl]
          · cases hv
      obtain ⟨u, h3, h4⟩ := hone
      refine ⟨u :: us, ?_, u, us, h4, h2, rfl⟩
      simp only [List.mapM_cons, Sem.run_bind, h3, Result.andThen_ok, h1, Sem.run_pure]
    · cases h
theorem result_sound {ρ : Map} {fr : Fr} {s : St} {a : Act} {w : World} (rf : RF ρ fr a) (rm : RM G base ρ s w) {fn : Func} {v : AV} (h : resultOf P G fr s.h fn.results = some v) : ∃ u, (results fn a.tmps).run P w = .ok u w ∧ RV ρ v u := by
  have hres : results fn a.tmps = (do let vs ← fn.results.mapM (resF a.tmps); pure (if h : vs.size = 1 then vs[0] else .tuple vs)) := rfl
  have key : ∀ vs, resultsA P G fr s.h fn.results.toList = some vs → ∃ us : List Value, (fn.results.mapM (resF a.tmps)).run P w = .ok us.toArray w ∧ RVs ρ vs us := fun vs hvs => by
    obtain ⟨us, h1, h2⟩ := resultsA_sound rf rm hvs
    refine ⟨us, ?_, h2⟩
    rw [Array.mapM_eq_mapM_toList]
    simp only [map_eq_pure_bind, Sem.run_bind, h1, Result.andThen_ok, Sem.run_pure]
  unfold resultOf at h
  split at h
  · rename_i v' hvs
    cases h
    obtain ⟨us, h1, u, us', ru, rs, e⟩ := key _ hvs
    simp only [RVs] at rs
    subst rs e
    refine ⟨u, ?_, ru⟩
    rw [hres]
    simp only [Sem.run_bind, h1, Result.andThen_ok, Sem.run_pure]
    rfl
  · rename_i vs hne hvs
    cases h
    obtain ⟨us, h1, rs⟩ := key _ hvs
    refine ⟨.tuple us.toArray, ?_, us, rs, rfl⟩
    have hl : us.toArray.size ≠ 1 := by
      intro e
      have := RVs.length rs
      simp at e
      rw [e] at this
      obtain ⟨x, hx⟩ := List.length_eq_one_iff.1 this
      exact hne x hx
    rw [hres]
    simp only [Sem.run_bind, h1, Result.andThen_ok, Sem.run_pure]
    rw [dif_neg hl]
  · cases h

/-! ### a function's body -/
theorem Adv.callee {ρ ρ' : Map} {s s' : St} {w w' : World} (h : Adv base (Own s.fc) ρ ⟨s.h, s.fc + 1⟩ w ρ' s' w') : Adv base (fun _ => False) ρ s w ρ' s' w' :=
  ⟨h.st, Nat.le_trans (Nat.le_succ _) h.fc, fun i hi _ => h.keep i (by show i < (s.fc + 1) * KK; rw [succ_KK]; omega) (by rintro ⟨h1, _⟩; omega), h.hi⟩

def act0 (fn : Func) (vs : List Value) : Act := { tmps := vs.toArray ++ Array.replicate (fn.ntmps - vs.toArray.size) undef, defers := [] }
theorem act0_rf {ρ : Map} {fn : Func} {args : List AV} {vs : List Value} (r : RVs ρ args vs) (fno : Nat) (rc : Rc) : RF ρ ⟨fno, 0, Nat.max fn.ntmps args.length, T.setList .e 0 args, [], rc⟩ (act0 fn vs) := by
  have hl := RVs.length r
  refine ⟨?_, fun t => ?_⟩
  · have : Nat.max fn.ntmps args.length = max fn.ntmps args.length := rfl
    simp only [act0, Array.size_append, Array.size_replicate, List.size_toArray, this]
    omega
  · simp only [T.get_setList, Nat.zero_le, true_and, Nat.zero_add, Nat.sub_zero]
    by_cases ht : t < args.length
    · rw [if_pos ht]
      have ha : args[t]? = some args[t] := by simp [ht]
      obtain ⟨y, hy, ry⟩ := RVs.get r t _ ha
      rw [ha]
      have : (act0 fn vs).tmps.getD t undef = y := by
        have hlt : t < vs.length := by omega
        have e1 : (act0 fn vs).tmps[t]? = some y := by
          simp only [act0]
          rw [Array.getElem?_append_left (by simpa using hlt)]
          simpa using hy
        simp [e1]
      rw [this]; exact ry
    · rw [if_neg ht]
      have hg : (T.e : T AV).get t = none := by cases t <;> rfl
      have : (act0 fn vs).tmps.getD t undef = undef := by
        have hge : vs.toArray.size ≤ t := by simp; omega
        cases hq : (act0 fn vs).tmps[t]? with
        | none => simp [hq]
        | some y =>
          have hq' := hq
          simp only [act0] at hq'
          rw [Array.getElem?_append_right hge] at hq'
          simp only [Array.getElem?_replicate] at hq'
          split at hq'
          · cases hq'; simp [hq]
          · cases hq'
      rw [this]
      first | (rw [hg]; exact rv_undef _) | exact rv_undef _

/-- how a body ends -/
def BPost (G : Glob) (base : Nat) (cs0 : List Frame) (rc : Rc) (ρ0 : Map) (s0 : St) (w0 : World) (outs : List (Ex × Fr × St)) (e : Exit) (a' : Act) (cs' : List Frame) (w' : World) : Prop :=
  ∃ x fr' s' ρ', (x, fr', s') ∈ outs ∧ RX ρ' x e ∧ RF ρ' fr' a' ∧ RM G base ρ' s' w' ∧ RD ρ' fr'.df a'.defers ∧ Adv base (fun _ => False) ρ0 s0 w0 ρ' s' w' ∧ RCx ρ' fr'.rc cs0 cs' ∧ (rc = .no → fr'.rc = .no)

theorem body_sound {call : CallF} (HC : CallOK P G base call) (hm : P.follows .mixedOrders = true) {m : Nat} {fn : Func} {args : List AV} {s : St} {rc : Rc} {l : List (Ex × Fr × St)} (h : body P G call m fn args s rc = some l) {ρ : Map} {vs : List Value} {w : World} (rv : RVs ρ args vs) (rm : RM G base ρ s w) :
    ∃ c, fn.body = some c ∧ ∀ cs0 cs, RCx ρ rc cs0 cs → WP P (FrOK rc) c (BPost G base cs0 rc ρ s w l) (act0 fn vs) cs w := by
  unfold body at h
  split at h
  · cases h
  · rename_i c hc
    refine ⟨c, hc, fun cs0 cs hcs => ?_⟩
    obtain ⟨h0, fc⟩ := s
    simp only [natC_eq, T.setListC_eq] at h
    have rs : RS G base 0 ρ ⟨fc, 0, Nat.max fn.ntmps args.length, T.setList .e 0 args, [], rc⟩ ⟨h0, fc + 1⟩ (act0 fn vs) w := by
      have hi : ∀ i, fc * KK ≤ i → ρ i = none := rm.hi
      refine ⟨act0_rf rv fc rc, ⟨rm.rh, rm.rg, rm.bs, fun i h1 => hi i ?_⟩, fun i h1 _ => hi i ?_, Nat.lt_succ_self _, rfl⟩
      · have h1 : (fc + 1) * KK ≤ i := h1
        rw [succ_KK] at h1; omega
      · have h1 : fc * KK + (0 + 0) ≤ i := h1
        omega
    have := code_sound (cs0 := cs0) HC hm m c _ _ l h ρ (act0 fn vs) cs w rs hcs
    refine this.mono ?_
    rintro e a' cs' w' ⟨x, fr', s', ρ', h1, h2, h3, h4, h5, h6, h7, h8⟩
    exact ⟨x, fr', s', ρ', h1, h2, h3.rf, h3.rm, h3.df, Adv.callee (s := ⟨h0, fc⟩) h4, h6, h8⟩

/-! ### what is deferred -/
def RL (ρ : Map) : Lv → FrameMode → Prop
  | .back, m => m = .returning
  | .pan v, m => ∃ u, RV ρ v u ∧ m = .panicking [{ v := u, recovered := false }]
theorem RL.mono {ρ ρ' : Map} (h : Mono ρ ρ') : ∀ {u : Lv} {m : FrameMode}, RL ρ u m → RL ρ' u m
  | .back, _, r => r
  | .pan _, _, ⟨u, r, e⟩ => ⟨u, RV.mono h _ _ r, e⟩

theorem deferred_ends {u : Lv} {fn : Func} : ∀ {l : List (Ex × Fr × St)} {res : List (Lv × St)}, deferred.ends P G u fn l = some res → ∀ e fr s, (e, fr, s) ∈ l →
    (e = .normal ∨ e = .ret) ∧ fr.df = [] ∧ (∃ v, resultOf P G fr s.h fn.results = some v) ∧
      ((u = .back ∧ fr.rc = .idle ∧ (Lv.back, s) ∈ res) ∨ (∃ v v', u = .pan v ∧ fr.rc = .live v' true ∧ (Lv.back, s) ∈ res) ∨ (∃ v v', u = .pan v ∧ fr.rc = .live v' false ∧ (Lv.pan v', s) ∈ res))
  | [], _, _, e, fr, s, hm => by cases hm
  | (e0, fr0, s0) :: rest, res, h, e, fr, s, hm => by
    simp only [deferred.ends] at h
    split at h
    · cases h
    · rename_i b hb
      have ih := deferred_ends hb e fr s
      have fin : ∀ x, (match u, fr0.rc with
          | .back, .idle => some ((Lv.back, s0) :: b)
          | .pan _, .live _ true => some ((.back, s0) :: b)
          | .pan _, .live v false => some ((.pan v, s0) :: b)
          | _, _ => none) = some res → resultOf P G fr0 s0.h fn.results = some x → fr0.df = [] → (e0 = .normal ∨ e0 = .ret) → 
          (e = .normal ∨ e = .ret) ∧ fr.df = [] ∧ (∃ v, resultOf P G fr s.h fn.results = some v) ∧
            ((u = .back ∧ fr.rc = .idle ∧ (Lv.back, s) ∈ res) ∨ (∃ v v', u = .pan v ∧ fr.rc = .live v' true ∧ (Lv.back, s) ∈ res) ∨ (∃ v v', u = .pan v ∧ fr.rc = .live v' false ∧ (Lv.pan v', s) ∈ res)) := by
        intro x h' hx hdf he0
        clear h
        split at h'
        · rename_i hrc
          cases h'
          rcases List.mem_cons.1 hm with q | q
          · cases q; exact ⟨he0, hdf, ⟨x, hx⟩, .inl ⟨rfl, hrc, List.mem_cons_self⟩⟩
          · obtain ⟨h1, h2, h3, h4⟩ := ih q
            refine ⟨h1, h2, h3, ?_⟩
            rcases h4 with ⟨e1, e2, e3⟩ | ⟨v, v', e1, e2, e3⟩ | ⟨v, v', e1, e2, e3⟩
            · exact .inl ⟨e1, e2, List.mem_cons_of_mem _ e3⟩
            · cases e1
            · cases e1
        · rename_i v0 v1 hrc
          cases h'
          rcases List.mem_cons.1 hm with q | q
          · cases q; exact ⟨he0, hdf, ⟨x, hx⟩, .inr (.inl ⟨_, _, rfl, hrc, List.mem_cons_self⟩)⟩
          · obtain ⟨h1, h2, h3, h4⟩ := ih q
            refine ⟨h1, h2, h3, ?_⟩
            rcases h4 with ⟨e1, e2, e3⟩ | ⟨v, v', e1, e2, e3⟩ | ⟨v, v', e1, e2, e3⟩
            · cases e1
            · exact .inr (.inl ⟨v, v', e1, e2, List.mem_cons_of_mem _ e3⟩)
            · exact .inr (.inr ⟨v, v', e1, e2, List.mem_cons_of_mem _ e3⟩)
        · rename_i v0 v1 hrc
          cases h'
          rcases List.mem_cons.1 hm with q | q
          · cases q; exact ⟨he0, hdf, ⟨x, hx⟩, .inr (.inr ⟨_, _, rfl, hrc, List.mem_cons_self⟩)⟩
          · obtain ⟨h1, h2, h3, h4⟩ := ih q
            refine ⟨h1, h2, h3, ?_⟩
            rcases h4 with ⟨e1, e2, e3⟩ | ⟨v, v', e1, e2, e3⟩ | ⟨v, v', e1, e2, e3⟩
            · cases e1
            · exact .inr (.inl ⟨v, v', e1, e2, List.mem_cons_of_mem _ e3⟩)
            · exact .inr (.inr ⟨v, v', e1, e2, List.mem_cons_of_mem _ e3⟩)
        · cases h'
      split at h
      · rename_i x hdf hx
        exact fin x h hx hdf (.inl rfl)
      · rename_i x hdf hx
        exact fin x h hx hdf (.inr rfl)
      · cases h
end Go.Ai

namespace Go.Ai
open Go
variable {P : Program} {G : Glob} {base : Nat}

/-- the names that the program must not bear -/
def NoNum (P : Program) : Prop := ∀ (f : FuncId) (fn : Func), P.funcs[f]? = some fn → fn.body.isSome = true → (fn.name == "runtime.NumGoroutine") = false
theorem callFunc_enter (hn : NoNum P) {f : FuncId} {fn : Func} {c : Code} (hf : P.funcs[f]? = some fn) (hb : fn.body = some c) (args : Array Value) (w : World) : (callFunc f args).run P w = .ok (.enter f args) w := by
  have h1 := hn f fn hf (by rw [hb]; rfl)
  have h2 : ¬ fn.name = "runtime.NumGoroutine" := by simpa using h1
  simp [callFunc, hf, h2, hb]

theorem deferred_sound {call : CallF} (HC : CallOK P G base call) (hm : P.follows .mixedOrders = true) (hn : NoNum P) {m : Nat} {d : AV × List AV} {u : Lv} {s : St} {l : List (Lv × St)} (h : deferred P G call m d u s = some l) {ρ : Map} {dd : Deferred} {mode : FrameMode} {w : World}
    (rd : RDef ρ d dd) (rl : RL ρ u mode) (rm : RM G base ρ s w) :
    ∃ fv cap f args, dd.target = .fn fv cap ∧ (invoke dd.target dd.args).run P w = .ok (.enter f args) w ∧
      CallsD P f args mode w fun e mode' w' => ∃ v, e = .returned v ∧ ∃ u' s' ρ', (u', s') ∈ l ∧ RL ρ' u' (settle mode') ∧ RM G base ρ' s' w' ∧ Adv base (fun _ => False) ρ s w ρ' s' w' := by
  obtain ⟨g, first, captured, hd, f', c', a', r1, r2, r3, hdd⟩ := rd
  unfold deferred at h
  rw [hd] at h
  simp only at h
  split at h
  · rename_i fn hfn
    have hfn' : P.funcs[g]? = some fn := by simpa using hfn
    split at h
    · cases h
    · rename_i l0 hbody
      have rv : RVs ρ (first ++ d.2 ++ captured) (f' ++ a' ++ c') := RVs.append (RVs.append r1 r3) r2
      obtain ⟨c, hc, hwp⟩ := body_sound HC hm hbody rv rm
      subst hdd
      refine ⟨.func g, c'.toArray, g, (f' ++ a' ++ c').toArray, rfl, ?_, ?_⟩
      · simp only [invoke]
        have e1 : (f' ++ a').toArray ++ c'.toArray = (f' ++ a' ++ c').toArray := by apply Array.toList_inj.1; simp
        rw [e1]
        exact callFunc_enter hn hfn' hc _ w
      · refine callsD_of_wpS hfn' hc fun c₀ cs hmode => ?_
        have hw := hwp (c₀ :: cs) (c₀ :: cs) (by
          clear hwp
          cases u with
          | back => exact ⟨rfl, c₀, cs, rfl, by rw [hmode]; exact rl⟩
          | pan v =>
            obtain ⟨x, rx, hx⟩ := rl
            refine ⟨c₀, cs, x, rfl, rx, ?_⟩
            rw [← hx, ← hmode])
        intro b k hb1 hb2
        obtain ⟨e, a2, cs', w', hpost, harr⟩ := hw b k (by cases u <;> exact ⟨hb1, hb2⟩)
        refine ⟨e, a2, cs', w', ?_, harr⟩
        obtain ⟨x, fr', s', ρ', h1, h2, h3, h4, h5, h6, h7, h8⟩ := hpost
        obtain ⟨g1, g2, ⟨v, g3⟩, g4⟩ := deferred_ends h x fr' s' h1
        rw [g2] at h5
        simp only [RD] at h5
        obtain ⟨rv, hrun, _⟩ := result_sound h3 h4 g3
        have hmodes : ∃ mode', cs' = { c₀ with mode := mode' } :: cs ∧ ∃ u', (u', s') ∈ l ∧ RL ρ' u' (settle mode') := by
          rcases g4 with ⟨e1, e2, e3⟩ | ⟨v, v', e1, e2, e3⟩ | ⟨v, v', e1, e2, e3⟩
          · rw [e2] at h7
            obtain ⟨h9, c1, rest, h10, h11⟩ := h7
            cases h10
            refine ⟨.returning, ?_, .back, e3, rfl⟩
            rw [h9, ← h11]
          · rw [e2] at h7
            obtain ⟨c1, rest, y, h10, ry, h11⟩ := h7
            cases h10
            exact ⟨_, h11, .back, e3, rfl⟩
          · rw [e2] at h7
            obtain ⟨c1, rest, y, h10, ry, h11⟩ := h7
            cases h10
            exact ⟨_, h11, .pan v', e3, y, ry, rfl⟩
        obtain ⟨mode', hcs', u', hin, hrl⟩ := hmodes
        rcases g1 with e1 | e1
        · subst e1
          have he : e = .normal := h2
          subst he
          exact ⟨h5, mode', hcs', rv, hrun, rv, rfl, u', s', ρ', hin, hrl, h4, h6⟩
        · subst e1
          have he : e = .ret := h2
          subst he
          exact ⟨h5, mode', hcs', rv, hrun, rv, rfl, u', s', ρ', hin, hrl, h4, h6⟩
  · cases h

theorem leave_go {f : Lv → St → Outs} : ∀ {l : List (Lv × St)} {res : List Out} {u : Lv} {s : St}, leave.go f l = some res → (u, s) ∈ l → ∃ o', f u s = some o' ∧ ∀ x ∈ o', x ∈ res
  | [], _, _, _, _, h => by cases h
  | (u0, s0) :: rest, res, u, s, h, hm => by
    simp only [leave.go] at h
    split at h
    · cases h
    · rename_i a ha
      split at h
      · cases h
        rcases List.mem_cons.1 hm with q | q
        · cases q; exact ⟨_, ha, fun _ h => h⟩
        · cases q
      · split at h
        · cases h
        · rename_i b hb
          cases h
          rcases List.mem_cons.1 hm with q | q
          · cases q; exact ⟨_, ha, fun x h => List.mem_append_left _ h⟩
          · obtain ⟨o', h1, h2⟩ := leave_go hb q
            exact ⟨o', h1, fun x hx => List.mem_append_right _ (h2 x hx)⟩

theorem leaves_sound {call : CallF} (HC : CallOK P G base call) (hm : P.follows .mixedOrders = true) (hn : NoNum P) {m : Nat} {fn : Func} {fr : Fr} {a : Act} {ρ0 : Map} {s0 : St} {w0 : World} {OUTS : List Out} : ∀ (ds : List (AV × List AV)) (u : Lv) (s : St) (outs : List Out), leave P G call m fn fr ds u s = some outs → (∀ x ∈ outs, x ∈ OUTS) →
    ∀ (ρ : Map) (dd : List Deferred) (mode : FrameMode) (w : World), RD ρ ds dd → RL ρ u mode → RF ρ fr a → RM G base ρ s w → Adv base (fun _ => False) ρ0 s0 w0 ρ s w → Leaves P fn a.tmps (CallPost base ρ0 s0 w0 OUTS) dd mode w
  | [], .back, s, outs, h, hsub, ρ, dd, mode, w, rd, rl, rf, rm, hadv => by
    simp only [RD] at rd
    subst rd
    have rl : mode = .returning := rl
    subst rl
    simp only [leave] at h
    split at h
    · rename_i v hv
      cases h
      obtain ⟨u, hu, ru⟩ := result_sound rf rm hv
      exact ⟨u, hu, ρ, .inl ⟨v, s, u, hsub _ (List.mem_singleton.2 rfl), rfl, ru, hadv⟩⟩
    · cases h
  | [], .pan v, s, outs, h, hsub, ρ, dd, mode, w, rd, rl, rf, rm, hadv => by
    simp only [RD] at rd
    subst rd
    obtain ⟨u, ru, hx⟩ := rl
    subst hx
    simp only [leave] at h
    cases h
    exact ⟨ρ, .inr ⟨v, s, u, hsub _ (List.mem_singleton.2 rfl), rfl, ru, hadv⟩⟩
  | d :: ds, u, s, outs, h, hsub, ρ, dd, mode, w, rd, rl, rf, rm, hadv => by
    obtain ⟨d', ds', r1, r2, hdd⟩ := rd
    subst hdd
    simp only [leave] at h
    split at h
    · cases h
    · rename_i l hl
      obtain ⟨fv, cap, f, args, h1, h2, h3⟩ := deferred_sound HC hm hn hl r1 rl rm
      refine ⟨?_, fv, cap, f, args, h1, h2, h3.mono ?_⟩
      · cases u with
        | back => have : mode = .returning := rl; subst this; simp
        | pan v => obtain ⟨_, _, hx⟩ := rl; subst hx; simp
      · rintro e mode' w' ⟨v, he, u', s', ρ', hin, hrl, hrm, hadv'⟩
        subst he
        obtain ⟨o', ho, hs⟩ := leave_go h hin
        exact leaves_sound HC hm hn ds u' s' o' ho (fun x hx => hsub x (hs x hx)) ρ' ds' (settle mode') w' (r2.mono hadv'.st.mono) hrl (rf.mono hadv'.st.mono) hrm (hadv.trans hadv')

theorem ends_spec {call : CallF} {m : Nat} {fn : Func} : ∀ {l : List (Ex × Fr × St)} {res : List Out}, ends P G call m fn l = some res → ∀ e fr s, (e, fr, s) ∈ l →
    ∃ u o', (((e = .normal ∨ e = .ret) ∧ u = .back) ∨ ∃ v, e = .pan v ∧ u = .pan v) ∧ leave P G call m fn fr fr.df u s = some o' ∧ ∀ x ∈ o', x ∈ res
  | [], _, _, e, fr, s, hm => by cases hm
  | (e0, fr0, s0) :: rest, res, h, e, fr, s, hm => by
    simp only [ends] at h
    split at h
    · cases h
    · rename_i a ha
      have hd : ∃ u, (((e0 = .normal ∨ e0 = .ret) ∧ u = Lv.back) ∨ ∃ v, e0 = .pan v ∧ u = .pan v) ∧ leave P G call m fn fr0 fr0.df u s0 = some a := by
        cases e0 with
        | normal => exact ⟨.back, .inl ⟨.inl rfl, rfl⟩, ha⟩
        | ret => exact ⟨.back, .inl ⟨.inr rfl, rfl⟩, ha⟩
        | pan v => exact ⟨.pan v, .inr ⟨v, rfl, rfl⟩, ha⟩
        | exit j => simp at ha
      obtain ⟨u, hu, hl⟩ := hd
      split at h
      · cases h
        rcases List.mem_cons.1 hm with q | q
        · cases q; exact ⟨u, _, hu, hl, fun _ h => h⟩
        · cases q
      · split at h
        · cases h
        · rename_i b hb
          cases h
          rcases List.mem_cons.1 hm with q | q
          · cases q; exact ⟨u, _, hu, hl, fun x h => List.mem_append_left _ h⟩
          · obtain ⟨u', o', h1, h2, h3⟩ := ends_spec hb e fr s q
            exact ⟨u', o', h1, h2, fun x hx => List.mem_append_right _ (h3 x hx)⟩

/-! ### calls -/
/-- What is known without a walk. -/
def XOK (P : Program) (G : Glob) (X : Ext) : Prop :=
  ∀ f args v, X f args = some v → ∀ (ρ : Map) (base : Nat) (w : World) (vs : List Value), RVs ρ args vs → RG G base w → base ≤ w.heap.size → Meets P ((callFunc f vs.toArray).run P w) fun e w' => ∃ u, e = .returned u ∧ RV ρ v u ∧ Keeps (fun _ => False) w w'

theorem RM.keeps {ρ : Map} {s : St} {w w' : World} (r : RM G base ρ s w) (h : Keeps (fun _ => False) w w') : Adv base (fun _ => False) ρ s w ρ s w' := by
  have hblk : ∀ b, b < w.heap.size → w'.heap[b]? = w.heap[b]? := fun b hb => h.block b hb (fun h => h)
  have hrh : RH ρ base (hget s.h) w' := ⟨fun i ab hg hd => by
    obtain ⟨e, ob, h1, h2, h3, h4⟩ := r.rh.blk i ab hg hd
    exact ⟨e, ob, h1, h2, by rw [hblk e.b (r.rh.size hg hd h1)]; exact h3, h4⟩, r.rh.inj⟩
  exact ⟨⟨Mono.refl ρ, ⟨h.os, h.tape, h.output, h.size, fun b hb _ => hblk b hb⟩, hrh, fun b hb => .inl hb⟩, Nat.le_refl _, fun _ _ _ => rfl, r.hi⟩

theorem Meets.mono {r : Result Next} {R R' : Ending → World → Prop} (h : Meets P r R) (hr : ∀ e w, R e w → R' e w) : Meets P r R' := by
  unfold Meets at *
  split at h
  · exact hr _ _ h
  · exact h.mono hr
  · exact h.elim

/-- A CALL. -/
theorem call_sound {X : Ext} (HX : XOK P G X) (hm : P.follows .mixedOrders = true) (hn : NoNum P) (m : Nat) : ∀ n, CallOK P G base (call P G X m n)
  | 0 => fun f args s outs h => by simp [call] at h
  | n + 1 => by
    intro f args s outs h ρ w vs rv rm
    have HC := call_sound HX hm hn m n
    simp only [call] at h
    split at h
    · cases h
    · rename_i fn hfn
      have hfn' : P.funcs[f]? = some fn := by simpa using hfn
      split at h
      · rename_i v hv
        cases h
        refine (HX f args v hv ρ base w vs rv rm.rg rm.bs).mono ?_
        rintro e w' ⟨u, he, ru, hk⟩
        exact ⟨ρ, .inl ⟨v, s, u, List.mem_singleton.2 rfl, he, ru, rm.keeps hk⟩⟩
      · split at h
        · cases h
        · rename_i l hbody
          obtain ⟨c, hc, hwp⟩ := body_sound HC hm hbody rv rm
          rw [callFunc_enter hn hfn' hc]
          refine calls_of_wp_defers hfn' hc fun b k cs => ?_
          obtain ⟨e, a', cs', w', hpost, harr⟩ := hwp cs cs rfl b k trivial
          obtain ⟨x, fr', s', ρ', h1, h2, h3, h4, h5, h6, h7, h8⟩ := hpost
          have hrc := h8 rfl
          rw [hrc] at h7
          have hcs : cs' = cs := h7
          subst hcs
          refine ⟨e, a', w', ?_, harr⟩
          obtain ⟨u, o', hu, hl, hs⟩ := ends_spec h x fr' s' h1
          rcases hu with ⟨hx, hu⟩ | ⟨v, hx, hu⟩
          · subst hu
            have := leaves_sound HC hm hn fr'.df .back s' o' hl hs ρ' a'.defers .returning w' h5 rfl h3 h4 h6
            rcases hx with hx | hx
            · subst hx
              have he : e = .normal := h2
              subst he
              exact this
            · subst hx
              have he : e = .ret := h2
              subst he
              exact this
          · subst hx hu
            obtain ⟨u, ru, he⟩ := h2
            subst he
            exact leaves_sound HC hm hn fr'.df (.pan v) s' o' hl hs ρ' a'.defers _ w' h5 ⟨u, ru, rfl⟩ h3 h4 h6
end Go.Ai

namespace Go.Ai
open Go
variable {P : Program} {G : Glob}

/-! ### what is remembered -/
noncomputable def scalA : AV → Bool
  | .bool _ | .int _ _ | .str _ | .nilp | .nils | .nilm | .nilf | .nili => true
  | _ => false
noncomputable def scalL : List AV → Bool
  | [] => true
  | v :: vs => match scalA v with
    | true => scalL vs
    | false => false
noncomputable def plainA : AV → Bool
  | .agg vs => scalL vs
  | .tup vs => scalL vs
  | v => scalA v
noncomputable def plainL : List AV → Bool
  | [] => true
  | v :: vs => match plainA v with
    | true => plainL vs
    | false => false
noncomputable def memoOne : Outs → Option AV
  | some [.val v _] => match plainA v with
    | true => some v
    | false => none
  | _ => none
noncomputable def memoX (P : Program) (G : Glob) (X : Ext) (m n : Nat) (sel : Nat → Bool) : Ext := fun f args =>
  match sel f, plainL args with
  | true, true => memoOne (call P G X m n f args ⟨.e, 0⟩)
  | _, _ => X f args

theorem scalA_rv {v : AV} (h : scalA v = true) {ρ ρ' : Map} {u : Value} (r : RV ρ v u) : RV ρ' v u := by
  cases v <;> first | exact r | simp [scalA] at h
theorem scalL_rv : ∀ {vs : List AV}, scalL vs = true → ∀ {ρ ρ' : Map} {us : List Value}, RVs ρ vs us → RVs ρ' vs us
  | [], _, _, _, _, r => r
  | v :: vs, h, ρ, ρ', us, ⟨x, xs, rx, rs, e⟩ => by
    simp only [scalL] at h
    split at h
    · rename_i hv; exact ⟨x, xs, scalA_rv hv rx, scalL_rv h rs, e⟩
    · cases h
theorem plainA_rv {v : AV} (h : plainA v = true) {ρ ρ' : Map} {u : Value} (r : RV ρ v u) : RV ρ' v u := by
  cases v with
  | agg vs => obtain ⟨us, rs, e⟩ := r; exact ⟨us, scalL_rv h rs, e⟩
  | tup vs => obtain ⟨us, rs, e⟩ := r; exact ⟨us, scalL_rv h rs, e⟩
  | bool _ | int _ _ | str _ | nilp | nils | nilm | nilf | nili => exact r
  | _ => simp [plainA, scalA] at h
theorem plainL_rv : ∀ {vs : List AV}, plainL vs = true → ∀ {ρ ρ' : Map} {us : List Value}, RVs ρ vs us → RVs ρ' vs us
  | [], _, _, _, _, r => r
  | v :: vs, h, ρ, ρ', us, ⟨x, xs, rx, rs, e⟩ => by
    simp only [plainL] at h
    split at h
    · rename_i hv; exact ⟨x, xs, plainA_rv hv rx, plainL_rv h rs, e⟩
    · cases h

theorem rm_empty {base : Nat} {w : World} (rg : RG G base w) (hb : base ≤ w.heap.size) : RM G w.heap.size (fun _ => none) ⟨.e, 0⟩ w := by
  have he : ∀ i, hget (.e : Heap) i = none := fun i => by
    simp only [hget]
    cases hq : (T.e : T (T AB)).get (i / 1267650600228229401496703205376) <;> first | rfl | skip
    all_goals simp_all [T.get]
  refine ⟨⟨(fun i ab hi _ => absurd hi (by rw [he]; simp)), (fun i j e e' ⟨ab, hi, _⟩ => absurd hi (by rw [he]; simp))⟩, fun g l hg => ?_, Nat.le_refl _, fun _ _ => rfl⟩
  obtain ⟨h1, h2⟩ := rg g l hg
  exact ⟨by omega, h2⟩

/-- A CALL IN AN EMPTY MEMORY. -/
theorem call_empty {X : Ext} (HX : XOK P G X) (hm : P.follows .mixedOrders = true) (hn : NoNum P) {m n f : Nat} {args : List AV} {outs : List Out} (h : call P G X m n f args ⟨.e, 0⟩ = some outs) (hp : plainL args = true) {ρ : Map} {base : Nat} {w : World} {vs : List Value} (rv : RVs ρ args vs) (rg : RG G base w) (hb : base ≤ w.heap.size) :
    Meets P ((callFunc f vs.toArray).run P w) fun e w' => Keeps (fun _ => False) w w' ∧ ∃ ρ', (∃ v s' u, Out.val v s' ∈ outs ∧ e = .returned u ∧ RV ρ' v u) ∨ (∃ v s' u, Out.pan v s' ∈ outs ∧ e = .panicked [{ v := u, recovered := false }] ∧ RV ρ' v u) := by
  have rm := rm_empty rg hb
  refine (call_sound HX hm hn m n f args _ outs h _ w vs (plainL_rv hp rv) rm).mono ?_
  have keep : ∀ {ρ' : Map} {s' : St} {w' : World}, Adv w.heap.size (fun _ => False) (fun _ => none) ⟨.e, 0⟩ w ρ' s' w' → Keeps (fun _ => False) w w' := fun h =>
    ⟨h.st.keeps.os, h.st.keeps.tape, h.st.keeps.output, h.st.keeps.size, fun b hb _ => h.st.keeps.block b hb (by rintro ⟨i, e, _, he, _⟩; cases he)⟩
  rintro e w' ⟨ρ', ⟨v, s', u, h1, h2, h3, h4⟩ | ⟨v, s', u, h1, h2, h3, h4⟩⟩
  · exact ⟨keep h4, ρ', .inl ⟨v, s', u, h1, h2, h3⟩⟩
  · exact ⟨keep h4, ρ', .inr ⟨v, s', u, h1, h2, h3⟩⟩

theorem memo_ok {X : Ext} (HX : XOK P G X) (hm : P.follows .mixedOrders = true) (hn : NoNum P) (m n : Nat) (sel : Nat → Bool) : XOK P G (memoX P G X m n sel) := by
  intro f args v h ρ base w vs rv rg hb
  unfold memoX at h
  split at h
  · rename_i hp
    unfold memoOne at h
    split at h
    · rename_i v' s' hc
      split at h
      · rename_i hpl
        cases h
        refine (call_empty HX hm hn hc hp rv rg hb).mono ?_
        rintro e w' ⟨hk, ρ', ⟨v2, s2, u, h1, h2, h3⟩ | ⟨v2, s2, u, h1, h2, h3⟩⟩
        · cases List.mem_singleton.1 h1
          exact ⟨u, h2, plainA_rv hpl h3, hk⟩
        · cases List.mem_singleton.1 h1
      · cases h
    · cases h
  · exact HX f args v h ρ base w vs rv rg hb

/-- do all the ways out answer true? -/
noncomputable def allTrue : List Out → Bool
  | [] => true
  | .val (.bool true) _ :: r => allTrue r
  | _ => false
noncomputable def saysTrue : Outs → Bool
  | some l => allTrue l
  | none => false
theorem allTrue_spec : ∀ {l : List Out}, allTrue l = true → ∀ o ∈ l, ∃ s, o = .val (.bool true) s
  | [], _, o, h => by cases h
  | .val (.bool true) s :: r, h, o, hm => by
    rcases List.mem_cons.1 hm with e | e
    · exact ⟨s, e⟩
    · exact allTrue_spec (by simpa [allTrue] using h) o e
  | .val (.bool false) s :: r, h, o, hm => by simp [allTrue] at h
  | .pan _ _ :: r, h, o, hm => by simp [allTrue] at h
  | .val (.int _ _) _ :: r, h, o, hm | .val (.str _) _ :: r, h, o, hm | .val .nilp _ :: r, h, o, hm | .val (.ptr _ _) _ :: r, h, o, hm | .val (.gptr _ _) _ :: r, h, o, hm | .val .nils _ :: r, h, o, hm
  | .val (.slice ..) _ :: r, h, o, hm | .val .nilm _ :: r, h, o, hm | .val (.map _) _ :: r, h, o, hm | .val (.fn ..) _ :: r, h, o, hm | .val .nilf _ :: r, h, o, hm | .val (.iface ..) _ :: r, h, o, hm | .val .nili _ :: r, h, o, hm
  | .val (.agg _) _ :: r, h, o, hm | .val (.tup _) _ :: r, h, o, hm => by simp [allTrue] at h

/-- A LAW WITHOUT PARAMETERS. -/
theorem says_true {X : Ext} (HX : XOK P G X) (hm : P.follows .mixedOrders = true) (hn : NoNum P) {m n f : Nat} (h : saysTrue (call P G X m n f [] ⟨.e, 0⟩) = true) {fn : Func} {c : Code} (hf : P.funcs[f]? = some fn) (hb : fn.body = some c) {base : Nat} {w : World} (rg : RG G base w) (hbs : base ≤ w.heap.size) :
    Calls P f #[] w fun e w' => e = .returned (.bool true) ∧ Keeps (fun _ => False) w w' := by
  unfold saysTrue at h
  split at h
  · rename_i l hl
    have := call_empty HX hm hn hl rfl (ρ := fun _ => none) (vs := []) rfl rg hbs
    have e0 : ([] : List Value).toArray = #[] := rfl
    rw [e0, callFunc_enter hn hf hb] at this
    refine Calls.mono (this : Calls P f #[] w _) ?_
    rintro e w' ⟨hk, ρ', ⟨v, s', u, h1, h2, h3⟩ | ⟨v, s', u, h1, h2, h3⟩⟩
    · obtain ⟨s, hs⟩ := allTrue_spec h _ h1
      cases hs
      simp only [RV] at h3
      subst h3
      exact ⟨h2, hk⟩
    · obtain ⟨s, hs⟩ := allTrue_spec h _ h1
      cases hs
  · cases h
end Go.Ai

namespace Go.Ai
open Go
variable {P : Program} {G : Glob}

/-! ### the library's functions without a body -/
noncomputable def idxB (c : Nat) : List UInt8 → Nat → Int
  | [], _ => -1
  | b :: bs, i => match Nat.beq b.toNat c with
    | true => i
    | false => idxB c bs (i + 1)
noncomputable def cmpB : List UInt8 → List UInt8 → Int
  | [], [] => 0
  | [], _ :: _ => -1
  | _ :: _, [] => 1
  | a :: x, b :: y => match Nat.blt a.toNat b.toNat, Nat.blt b.toNat a.toNat with
    | true, _ => -1
    | _, true => 1
    | _, _ => cmpB x y

theorem idxB_spec (c : UInt8) : ∀ (l : List UInt8) (i : Nat), idxB c.toNat l i = match (List.range l.length).find? fun k => l[k]! == c with | some k => ((i + k : Nat) : Int) | none => -1
  | [], i => rfl
  | b :: bs, i => by
    simp only [idxB]
    rw [List.length_cons, List.range_succ_eq_map, List.find?_cons]
    cases h : Nat.beq b.toNat c.toNat with
    | true =>
      have e : b = c := UInt8.toNat_inj.1 (Nat.eq_of_beq_eq_true h)
      subst e
      simp
    | false =>
      have e : (b == c) = false := by
        cases hq : b == c with
        | false => rfl
        | true => have := eq_of_beq hq; subst this; simp at h
      have e0 : (((b :: bs)[0]! : UInt8) == c) = false := e
      rw [e0]
      simp only
      rw [idxB_spec c bs (i + 1), List.find?_map]
      have hf : ((fun k => (b :: bs)[k]! == c) ∘ Nat.succ) = fun k => bs[k]! == c := by funext k; simp
      rw [hf]
      cases (List.range bs.length).find? fun k => bs[k]! == c with
      | none => rfl
      | some k => simp only [Option.map_some]; congr 1; omega

theorem cmp_go : ∀ (x y : List UInt8), cmpB x y =
    match (List.range (min x.length y.length)).find? fun i => x[i]! != y[i]! with
    | some i => if x[i]! < y[i]! then -1 else 1
    | none => if x.length < y.length then -1 else if x.length > y.length then 1 else 0
  | [], [] => rfl
  | [], b :: y => by simp [cmpB]
  | a :: x, [] => by simp [cmpB]
  | a :: x, b :: y => by
    have hmin : min (a :: x).length (b :: y).length = min x.length y.length + 1 := by simp only [List.length_cons]; omega
    rw [hmin, List.range_succ_eq_map, List.find?_cons]
    simp only [cmpB]
    have h0 : ((a :: x)[0]! : UInt8) = a := rfl
    have h0' : ((b :: y)[0]! : UInt8) = b := rfl
    have hlt : ∀ u v : UInt8, Nat.blt u.toNat v.toNat = decide (u < v) := fun u v => by
      rw [Bool.eq_iff_iff]
      simp [UInt8.lt_iff_toNat_lt]
    rw [hlt, hlt, h0, h0']
    by_cases hab : a = b
    · subst hab
      have e : (a != a) = false := by simp
      have e1 : decide (a < a) = false := by simp
      rw [e, e1]
      simp only
      rw [cmp_go x y, List.find?_map]
      have hf : ((fun i => ((a :: x)[i]! != (a :: y)[i]!)) ∘ Nat.succ) = fun i => x[i]! != y[i]! := by funext k; simp
      rw [hf]
      cases (List.range (min x.length y.length)).find? fun i => x[i]! != y[i]! with
      | none => simp
      | some k => simp
    · have e : (a != b) = true := by simpa using hab
      rw [e]
      show _ = (if a < b then (-1 : Int) else 1)
      by_cases hl : a < b
      · have e1 : decide (a < b) = true := by simpa using hl
        rw [e1, if_pos hl]
      · have e1 : decide (a < b) = false := by simpa using hl
        have e2 : decide (b < a) = true := by
          have : b < a := by
            rw [UInt8.lt_iff_toNat_lt] at hl ⊢
            have : a.toNat ≠ b.toNat := fun h => hab (UInt8.toNat_inj.1 h)
            omega
          simpa using this
        rw [e1, e2, if_neg hl]

theorem size_mk (l : List UInt8) : (ByteArray.mk l.toArray).size = l.length := by simp [ByteArray.size]
theorem get_mk (l : List UInt8) (i : Nat) : (ByteArray.mk l.toArray)[i]! = l[i]! := by
  by_cases h : i < l.length
  · have h' : i < (ByteArray.mk l.toArray).size := by rw [size_mk]; exact h
    rw [getElem!_pos (ByteArray.mk l.toArray) i h', getElem!_pos l i h]
    rfl
  · have h' : ¬ i < (ByteArray.mk l.toArray).size := by rw [size_mk]; exact h
    rw [getElem!_neg (ByteArray.mk l.toArray) i h', getElem!_neg l i h]

theorem idx_ok {f : FuncId} {fn : Func} (hf : P.funcs[f]? = some fn) (hname : (fn.name == "runtime.NumGoroutine") = false) (hb : fn.body.isNone = true) (hn : Extern.findNext fn = none) (he : Extern.find fn = some Extern.BytealgIndexByte.indexByte)
    {l : List UInt8} {c : Nat} (hc : c < 256) (w : World) : (callFunc f #[.string ⟨l.toArray⟩, .int .u8 (c : Int)]).run P w = .ok (.value (.int .i64 (idxB c l 0))) w := by
  rw [run_callFunc_extern hf hname hb hn he, run_indexByte_string]
  have hcc : ((c : Int).toNat.toUInt8).toNat = c := by simp; omega
  have : firstIdx ⟨l.toArray⟩ (c : Int).toNat.toUInt8 = idxB c l 0 := by
    have h1 := idxB_spec (c : Int).toNat.toUInt8 l 0
    rw [hcc] at h1
    rw [h1]
    unfold firstIdx
    rw [size_mk]
    simp only [get_mk, Nat.zero_add]
    rfl
  rw [this]
  rfl
theorem cmp_ok {f : FuncId} {fn : Func} (hf : P.funcs[f]? = some fn) (hname : (fn.name == "runtime.NumGoroutine") = false) (hb : fn.body.isNone = true) (hn : Extern.findNext fn = none) (he : Extern.find fn = some Extern.BytealgCompare.compare)
    {x y : List UInt8} (w : World) : (callFunc f #[.string ⟨x.toArray⟩, .string ⟨y.toArray⟩]).run P w = .ok (.value (.int .i64 (cmpB x y))) w := by
  rw [run_callFunc_extern hf hname hb hn he]
  have : Extern.BytealgCompare.cmp ⟨x.toArray⟩ ⟨y.toArray⟩ = cmpB x y := by
    rw [cmp_go]
    unfold Extern.BytealgCompare.cmp
    rw [size_mk, size_mk]
    simp only [get_mk]
    rfl
  rw [← this]
  rfl
end Go.Ai

namespace Go.Ai
open Go
variable {P : Program} {G : Glob}

/-! ### what is said of results -/
def WR (r : Res) (Q : Ex → Fr → St → Prop) : Prop := ∃ l, r = some l ∧ ∀ e fr s, (e, fr, s) ∈ l → Q e fr s
def WO (o : Outs) (Q : Out → Prop) : Prop := ∃ l, o = some l ∧ ∀ x, x ∈ l → Q x

theorem WR.mono {r : Res} {Q Q' : Ex → Fr → St → Prop} (h : WR r Q) (hq : ∀ e fr s, Q e fr s → Q' e fr s) : WR r Q' :=
  let ⟨l, h1, h2⟩ := h; ⟨l, h1, fun e fr s hm => hq _ _ _ (h2 e fr s hm)⟩
theorem WO.mono {r : Outs} {Q Q' : Out → Prop} (h : WO r Q) (hq : ∀ x, Q x → Q' x) : WO r Q' :=
  let ⟨l, h1, h2⟩ := h; ⟨l, h1, fun x hm => hq _ (h2 x hm)⟩
theorem wr_none (Q : Ex → Fr → St → Prop) : WR none Q = False := by simp [WR]
theorem wo_none (Q : Out → Prop) : WO none Q = False := by simp [WO]
theorem wr_one (e : Ex) (fr : Fr) (s : St) (Q : Ex → Fr → St → Prop) : WR (some [(e, fr, s)]) Q = Q e fr s := by
  apply propext
  constructor
  · rintro ⟨l, hl, h⟩; cases hl; exact h e fr s (List.mem_singleton.2 rfl)
  · intro h; exact ⟨_, rfl, fun e' fr' s' hm => by cases List.mem_singleton.1 hm; exact h⟩
theorem wo_one (x : Out) (Q : Out → Prop) : WO (some [x]) Q = Q x := by simp [WO]
theorem wo_nil (Q : Out → Prop) : WO (some []) Q = True := by simp [WO]
theorem wr_nil (Q : Ex → Fr → St → Prop) : WR (some []) Q = True := by simp [WR]

theorem wr_go (f : Ex → Fr → St → Res) (Q : Ex → Fr → St → Prop) : ∀ l : List (Ex × Fr × St), WR (bindR.go f l) Q ↔ ∀ e fr s, (e, fr, s) ∈ l → WR (f e fr s) Q
  | [] => by simp [bindR.go, WR]
  | (e0, fr0, s0) :: rest => by
    have ih := wr_go f Q rest
    rw [bindR.go]
    cases hf : f e0 fr0 s0 with
    | none =>
      simp only
      constructor
      · intro h; simp [wr_none] at h
      · intro h; have := h e0 fr0 s0 List.mem_cons_self; rw [hf] at this; exact this
    | some a =>
      simp only
      cases rest with
      | nil =>
        simp only
        constructor
        · intro h e fr s hm
          cases List.mem_singleton.1 hm
          rw [hf]; exact h
        · intro h; have := h e0 fr0 s0 List.mem_cons_self; rw [hf] at this; exact this
      | cons y ys =>
        simp only
        cases hg : bindR.go f (y :: ys) with
        | none =>
          rw [hg] at ih
          simp only
          constructor
          · intro h; simp [wr_none] at h
          · intro h; exact ih.2 fun e fr s hm => h e fr s (List.mem_cons_of_mem _ hm)
        | some b =>
          rw [hg] at ih
          simp only
          constructor
          · rintro ⟨l, hl, h⟩ e fr s hm
            cases hl
            rcases List.mem_cons.1 hm with q | q
            · cases q; rw [hf]; exact ⟨a, rfl, fun e fr s hm => h e fr s (List.mem_append_left _ hm)⟩
            · exact ih.1 ⟨b, rfl, fun e fr s hm => h e fr s (List.mem_append_right _ hm)⟩ e fr s q
          · intro h
            refine ⟨_, rfl, fun e fr s hm => ?_⟩
            rcases List.mem_append.1 hm with q | q
            · obtain ⟨l, hl, h'⟩ := h e0 fr0 s0 List.mem_cons_self
              rw [hf] at hl; cases hl
              exact h' e fr s q
            · obtain ⟨l, hl, h'⟩ := ih.2 fun e fr s hm => h e fr s (List.mem_cons_of_mem _ hm)
              cases hl
              exact h' e fr s q
theorem wr_bind (r : Res) (f : Ex → Fr → St → Res) (Q : Ex → Fr → St → Prop) : WR (bindR r f) Q = WR r (fun e fr s => WR (f e fr s) Q) := by
  apply propext
  cases r with
  | none => simp [bindR, wr_none]
  | some l =>
    rw [bindR, wr_go]
    constructor
    · intro h; exact ⟨l, rfl, h⟩
    · rintro ⟨l', e, h⟩; cases e; exact h

/-! ### the code -/
variable {call : CallF} {m : Nat} {fr : Fr} {s : St} {Q : Ex → Fr → St → Prop}
def seqQ (x : Fr → St → Prop) (Q : Ex → Fr → St → Prop) : Ex → Fr → St → Prop
  | .normal, fr, s => x fr s
  | e, fr, s => Q e fr s
theorem wr_seq (a b : Code) : WR (code P G call m (.seq a b) fr s) Q = WR (code P G call m a fr s) (seqQ (fun fr s => WR (code P G call m b fr s) Q) Q) := by
  rw [code, wr_bind]
  congr 1
  funext e fr s
  cases e <;> simp [seqQ, wr_one]
def blockQ (id : Nat) (Q : Ex → Fr → St → Prop) : Ex → Fr → St → Prop
  | .exit j, fr, s => if j = id then Q .normal fr s else Q (.exit j) fr s
  | e, fr, s => Q e fr s
theorem wr_block (id : Nat) (a : Code) : WR (code P G call m (.block id a) fr s) Q = WR (code P G call m a fr s) (blockQ id Q) := by
  rw [code, wr_bind]
  congr 1
  funext e fr s
  cases e with
  | exit j =>
    simp only [blockQ]
    by_cases h : j = id
    · subst h; simp [wr_one]
    · have : Nat.beq j id = false := by cases hq : Nat.beq j id with | false => rfl | true => exact absurd (Nat.eq_of_beq_eq_true hq) h
      rw [this]; simp [wr_one, h]
  | _ => simp [blockQ, wr_one]
theorem wr_cond {c : Operand} {b : Bool} {x y : Code} (h : fr.ev c = some (.bool b)) : WR (code P G call m (.cond c x y) fr s) Q = if b then WR (code P G call m x fr s) Q else WR (code P G call m y fr s) Q := by
  rw [code, h]; cases b <;> simp
theorem wr_skip : WR (code P G call m .skip fr s) Q = Q .normal fr s := by rw [code, wr_one]
theorem wr_ret : WR (code P G call m .ret fr s) Q = Q .ret fr s := by rw [code, wr_one]
theorem wr_exit (id : Nat) : WR (code P G call m (.exit id) fr s) Q = Q (.exit id) fr s := by rw [code, wr_one]
theorem wr_text {id : Nat} {ops : Array Oper} (h : keysOk fr ops.toList.length = true) : WR (code P G call m (.region id ops false) fr s) Q = WR (textOps P G call ops ops.toList 0 fr s) Q := by
  rw [code, region]
  simp only [h]
end Go.Ai

namespace Go.Ai
open Go

/-! ### tries in normal form -/
theorem T.setF_e {α : Type} (f : Nat) (k : Nat) (x : α) : T.setF (f + 1) .e k x = T.setF (f + 1) (.n .e none .e) k x := by
  simp only [T.setF]
theorem T.setF_n {α : Type} (f : Nat) (l r : T α) (v : Option α) (k : Nat) (x : α) :
    T.setF (f + 1) (.n l v r) k x = if k = 0 then .n l (some x) r else if k % 2 = 1 then .n (T.setF f l (k / 2) x) v r else .n l v (T.setF f r (k / 2 - 1) x) := by
  simp only [T.setF]
  cases h0 : Nat.beq k 0 with
  | true => have := Nat.eq_of_beq_eq_true h0; simp [this]
  | false =>
    have hk : k ≠ 0 := by intro e; subst e; simp at h0
    cases h1 : Nat.beq (k % 2) 1 with
    | true => have := Nat.eq_of_beq_eq_true h1; simp [this, hk]
    | false =>
      have hk1 : k % 2 ≠ 1 := by intro e; rw [e] at h1; simp at h1
      simp [hk, hk1]
theorem T.setF_fuel {α : Type} : ∀ (f g : Nat) (t : T α) (k : Nat) (x : α), k < f → k < g → T.setF f t k x = T.setF g t k x
  | 0, _, _, _, _, h, _ => by omega
  | _ + 1, 0, _, _, _, _, h => by omega
  | f + 1, g + 1, .e, k, x, h, h' => by
    rw [T.setF_e, T.setF_e, T.setF_n, T.setF_n]
    split
    · rfl
    · split
      · rw [T.setF_fuel f g _ _ _ (by omega) (by omega)]
      · rw [T.setF_fuel f g _ _ _ (by omega) (by omega)]
  | f + 1, g + 1, .n l v r, k, x, h, h' => by
    rw [T.setF_n, T.setF_n]
    split
    · rfl
    · split
      · rw [T.setF_fuel f g _ _ _ (by omega) (by omega)]
      · rw [T.setF_fuel f g _ _ _ (by omega) (by omega)]
theorem T.setF_same {α : Type} : ∀ (f : Nat) (t : T α) (k : Nat) (x y : α), k < f → T.setF f (T.setF f t k x) k y = T.setF f t k y
  | 0, _, _, _, _, h => by omega
  | f + 1, t, k, x, y, h => by
    have key : ∀ (l r : T α) (v : Option α), T.setF (f + 1) (T.setF (f + 1) (.n l v r) k x) k y = T.setF (f + 1) (.n l v r) k y := by
      intro l r v
      rw [T.setF_n, T.setF_n f l r v k y]
      split
      · rename_i h0; rw [T.setF_n, if_pos h0]
      · rename_i h0
        split
        · rename_i h1; rw [T.setF_n, if_neg h0, if_pos h1, T.setF_same f _ _ _ _ (by omega)]
        · rename_i h1; rw [T.setF_n, if_neg h0, if_neg h1, T.setF_same f _ _ _ _ (by omega)]
    cases t with
    | e => rw [T.setF_e, T.setF_e f k y]; exact key _ _ _
    | n l v r => exact key _ _ _
theorem T.setF_comm {α : Type} : ∀ (f : Nat) (t : T α) (k j : Nat) (x y : α), k < f → j < f → k ≠ j → T.setF f (T.setF f t k x) j y = T.setF f (T.setF f t j y) k x
  | 0, _, _, _, _, _, h, _, _ => by omega
  | f + 1, t, k, j, x, y, h, h', hne => by
    have key : ∀ (l r : T α) (v : Option α), T.setF (f + 1) (T.setF (f + 1) (.n l v r) k x) j y = T.setF (f + 1) (T.setF (f + 1) (.n l v r) j y) k x := by
      intro l r v
      rw [T.setF_n f l r v k x, T.setF_n f l r v j y]
      by_cases k0 : k = 0
      · rw [if_pos k0]
        have j0 : j ≠ 0 := by omega
        rw [if_neg j0, T.setF_n, if_neg j0]
        by_cases j1 : j % 2 = 1
        · rw [if_pos j1, if_pos j1, T.setF_n, if_pos k0]
        · rw [if_neg j1, if_neg j1, T.setF_n, if_pos k0]
      · rw [if_neg k0]
        by_cases j0 : j = 0
        · rw [if_pos j0]
          by_cases k1 : k % 2 = 1
          · rw [if_pos k1, T.setF_n, if_pos j0, T.setF_n, if_neg k0, if_pos k1]
          · rw [if_neg k1, T.setF_n, if_pos j0, T.setF_n, if_neg k0, if_neg k1]
        · rw [if_neg j0]
          by_cases k1 : k % 2 = 1
          · rw [if_pos k1, T.setF_n, if_neg j0]
            by_cases j1 : j % 2 = 1
            · rw [if_pos j1, if_pos j1, T.setF_n, if_neg k0, if_pos k1, T.setF_comm f _ _ _ _ _ (by omega) (by omega) (by omega)]
            · rw [if_neg j1, if_neg j1, T.setF_n, if_neg k0, if_pos k1]
          · rw [if_neg k1, T.setF_n, if_neg j0]
            by_cases j1 : j % 2 = 1
            · rw [if_pos j1, if_pos j1, T.setF_n, if_neg k0, if_neg k1]
            · rw [if_neg j1, if_neg j1, T.setF_n, if_neg k0, if_neg k1, T.setF_comm f _ _ _ _ _ (by omega) (by omega) (by omega)]
    cases t with
    | e => rw [T.setF_e, T.setF_e f j y]; exact key _ _ _
    | n l v r => exact key _ _ _
theorem T.set_same {α : Type} (t : T α) (k : Nat) (x y : α) : (t.set k x).set k y = t.set k y := T.setF_same _ _ _ _ _ (by omega)
theorem T.set_comm {α : Type} (t : T α) (k j : Nat) (x y : α) (h : k ≠ j) : (t.set k x).set j y = (t.set j y).set k x := by
  unfold T.set
  rw [T.setF_fuel (k + 1) (k + j + 1) t k x (by omega) (by omega), T.setF_fuel (j + 1) (k + j + 1) _ j y (by omega) (by omega),
    T.setF_fuel (j + 1) (k + j + 1) t j y (by omega) (by omega), T.setF_fuel (k + 1) (k + j + 1) _ k x (by omega) (by omega),
    T.setF_comm _ _ _ _ _ _ (by omega) (by omega) h]
theorem T.setList_set_lt {α : Type} : ∀ (l : List α) (t : T α) (k j : Nat) (v : α), j < k → (t.setList k l).set j v = (t.set j v).setList k l
  | [], _, _, _, _, _ => rfl
  | x :: xs, t, k, j, v, h => by
    rw [T.setList, T.setList, T.setList_set_lt xs _ _ _ _ (by omega), T.set_comm _ _ _ _ _ (by omega)]
theorem T.setList_set {α : Type} : ∀ (l : List α) (t : T α) (k i : Nat) (v : α), i < l.length → (t.setList k l).set (k + i) v = t.setList k (l.set i v)
  | [], _, _, _, _, h => by simp at h
  | x :: xs, t, k, 0, v, _ => by
    rw [T.setList, T.setList_set_lt _ _ _ _ _ (by omega), Nat.add_zero, T.set_same, List.set_cons_zero, T.setList]
  | x :: xs, t, k, i + 1, v, h => by
    rw [T.setList, show k + (i + 1) = k + 1 + i by omega, T.setList_set xs _ _ _ _ (by simpa using h), List.set_cons_succ, T.setList]
/-- a list, written over from a place on -/
def ovr {α : Type} : List α → Nat → List α → List α
  | l, _, [] => l
  | l, k, v :: vs => ovr (l.set k v) (k + 1) vs
theorem ovr_length {α : Type} : ∀ (vs l : List α) (k : Nat), (ovr l k vs).length = l.length
  | [], _, _ => rfl
  | v :: vs, l, k => by rw [ovr, ovr_length vs, List.length_set]
theorem T.setList_ovr {α : Type} : ∀ (vs l : List α) (k : Nat), k + vs.length ≤ l.length → (T.e.setList 0 l).setList k vs = T.e.setList 0 (ovr l k vs)
  | [], _, _, _ => rfl
  | v :: vs, l, k, h => by
    simp only [List.length_cons] at h
    rw [T.setList, ovr]
    have := T.setList_set l .e 0 k v (by omega)
    rw [Nat.zero_add] at this
    rw [this, T.setList_ovr vs _ _ (by rw [List.length_set]; omega)]
theorem ovr_eq {α : Type} : ∀ (vs l : List α) (k : Nat), k + vs.length ≤ l.length → ovr l k vs = l.take k ++ vs ++ l.drop (k + vs.length)
  | [], l, k, h => by simp [ovr]
  | v :: vs, l, k, h => by
    simp only [List.length_cons] at h
    rw [ovr, ovr_eq vs _ _ (by rw [List.length_set]; omega)]
    have e1 : (l.set k v).take (k + 1) = l.take k ++ [v] := by
      rw [List.take_succ_eq_append_getElem (by rw [List.length_set]; omega), List.take_set_of_le (by omega), List.getElem_set_self]
    rw [e1, List.drop_set_of_lt (by omega)]
    simp only [List.length_cons, List.append_assoc, List.cons_append, List.nil_append]
    rw [show k + 1 + vs.length = k + (vs.length + 1) by omega]

/-- a block of cells -/
noncomputable def mkRow (l : List AV) (es : Nat) : AB := .row (T.e.setList 0 l) l.length es
theorem rowOf_mk (l : List AV) (es : Nat) : rowOf l es = mkRow l es := by simp only [rowOf, T.setListC_eq, natC_eq, mkRow]
theorem rowGet_setList : ∀ (n : Nat) (l : List AV) (off : Nat), off + n ≤ l.length → rowGet (T.e.setList 0 l) off n = some ((l.drop off).take n)
  | 0, _, _, _ => by simp [rowGet]
  | n + 1, l, off, h => by
    rw [rowGet, T.get_setList, if_pos (by omega), Nat.sub_zero, List.getElem?_eq_getElem (by omega), rowGet_setList n l (off + 1) (by omega)]
    simp only [Option.some.injEq]
    rw [List.drop_eq_getElem_cons (i := off) (by omega), List.take_succ_cons]
noncomputable def rdAB : Option AB → Nat → Nat → Option (List AV)
  | some (.row cs m _), off, n => match Nat.ble (off + n) m with
    | true => rowGet cs off n
    | false => none
  | some (.rom cs m), off, n => match Nat.ble (off + n) m with
    | true => rowGet cs off n
    | false => none
  | _, _, _ => none
theorem readCells_eq (h : Heap) (id off n : Nat) : readCells h id off n = rdAB (hget h id) off n := by
  unfold readCells
  cases hget h id with
  | none => rfl
  | some ab => cases ab <;> rfl
theorem rdAB_row (l : List AV) (es off n : Nat) : rdAB (some (mkRow l es)) off n = if off + n ≤ l.length then some ((l.drop off).take n) else none := by
  simp only [mkRow, rdAB]
  by_cases h : off + n ≤ l.length
  · rw [if_pos h, Nat.ble_eq_true_of_le h]; exact rowGet_setList n l off h
  · rw [if_neg h]
    cases hb : Nat.ble (off + n) l.length with
    | true => exact absurd (Nat.le_of_ble_eq_true hb) h
    | false => rfl
noncomputable def wrAB (h : Heap) (id : Nat) : Option AB → Nat → List AV → Option Heap
  | some (.row cs m es), off, vs => match Nat.ble (off + vs.length) m && allCell vs with
    | true => some (hset h id (.row (cs.setList off vs) m es))
    | false => none
  | _, _, _ => none
theorem writeCells_wr (h : Heap) (id off : Nat) (vs : List AV) : writeCells h id off vs = wrAB h id (hget h id) off vs := by
  unfold writeCells
  cases hget h id with
  | none => rfl
  | some ab => cases ab with
    | row cs m es => simp only [T.setListC_eq, hsetC_eq, wrAB]; cases (off + vs.length).ble m && allCell vs <;> rfl
    | _ => rfl
theorem wrAB_row (h : Heap) (id : Nat) (l : List AV) (es off : Nat) (vs : List AV) : wrAB h id (some (mkRow l es)) off vs = if off + vs.length ≤ l.length ∧ allCell vs = true then some (hset h id (mkRow (ovr l off vs) es)) else none := by
  simp only [mkRow, wrAB]
  by_cases h1 : off + vs.length ≤ l.length
  · rw [Nat.ble_eq_true_of_le h1, Bool.true_and]
    cases h2 : allCell vs with
    | true => simp only [h1, and_self, if_true]; rw [T.setList_ovr _ _ _ h1, ovr_length]
    | false => simp
  · cases hb : Nat.ble (off + vs.length) l.length with
    | true => exact absurd (Nat.le_of_ble_eq_true hb) h1
    | false => simp [h1]
end Go.Ai

/-! A run with unknowns: what the simplifier wants. -/
namespace Go.Ai
open Go
variable {P : Program} {G : Glob} {call : CallF} {m : Nat} {s : St} {Q : Ex → Fr → St → Prop}

/-! ### keys -/
def ky (F c : Nat) : Nat := 1267650600228229401496703205376 * F + c
theorem ky_inj (F a b : Nat) : (ky F a = ky F b) = (a = b) := by apply propext; unfold ky; omega
theorem ky_old {F i a : Nat} (h : i < ky F 0) : (i = ky F a) = False := by
  apply propext; constructor
  · intro e; subst e; unfold ky at h; omega
  · exact False.elim
theorem ky_lt {F a b : Nat} (h : a < b) : ky F a < ky F b := by unfold ky; omega
theorem ky_up {F G a : Nat} (h : F < G) (ha : a ≤ 1267650600228229401496703205375) : ky F a < ky G 0 := by unfold ky; omega
/-! ### frames and states -/
section
variable (F lc n : Nat) (t : T AV) (df : List (AV × List AV)) (rc : Rc)
theorem keyOf_mk (i : Nat) : Ai.keyOf ⟨F, lc, n, t, df, rc⟩ i = ky F (lc + i) := Eq.trans rfl (Eq.refl (ky F (lc + i)))
theorem put_mk (d : Nat) (v : AV) : Fr.put ⟨F, lc, n, t, df, rc⟩ (some d) v = if d < n then some ⟨F, lc, n, t.set d v, df, rc⟩ else none := by
  simp only [Fr.put, avC_eq, T.setC_eq]
  by_cases h : d < n
  · have : Nat.blt d n = true := by rw [Nat.blt_eq]; exact h
    rw [this, if_pos h]
  · have : Nat.blt d n = false := by
      cases hb : Nat.blt d n with
      | true => rw [Nat.blt_eq] at hb; exact absurd hb h
      | false => rfl
    rw [this, if_neg h]
theorem put_none (fr : Fr) (v : AV) : fr.put none v = some fr := rfl
theorem bump_mk (d : Nat) : Fr.bump ⟨F, lc, n, t, df, rc⟩ d = ⟨F, lc + d, n, t, df, rc⟩ := by simp [Fr.bump, natC_eq]
theorem upd_mk (h : Heap) (fc k : Nat) (b : AB) : St.upd ⟨h, fc⟩ k b = ⟨hset h k b, fc⟩ := by rw [St.upd_eq]
theorem withH_mk (h h' : Heap) (fc : Nat) : St.withH ⟨h, fc⟩ h' = ⟨h', fc⟩ := rfl
theorem ev_tmp (k : Nat) : Fr.ev ⟨F, lc, n, t, df, rc⟩ (.tmp k) = match t.get k with | some v => some v | none => some .undef := rfl
theorem keysOk_mk (k : Nat) : keysOk ⟨F, lc, n, t, df, rc⟩ k = decide (lc + k ≤ 1267650600228229401496703205375) := by
  show Nat.ble (lc + k) 1267650600228229401496703205375 = _
  by_cases h : lc + k ≤ 1267650600228229401496703205375
  · rw [decide_eq_true h]; exact Nat.ble_eq_true_of_le h
  · rw [decide_eq_false h]
    cases hb : Nat.ble (lc + k) 1267650600228229401496703205375 with
    | true => exact absurd (Nat.le_of_ble_eq_true hb) h
    | false => rfl
end

/-! ### what the simplifier leaves alone -/
def ifQ (b : Bool) (x y : Prop) : Prop := if b = true then x else y
theorem ifQ_t (x y : Prop) : ifQ true x y = x := rfl
theorem ifQ_f (x y : Prop) : ifQ false x y = y := rfl
theorem ifQ_intro {b : Bool} {x y : Prop} (h : b = true → x) (h' : b = false → y) : ifQ b x y := by cases b <;> simp_all [ifQ]
@[congr] theorem ifQ_congr {b b' : Bool} {x y : Prop} (h : b = b') : ifQ b x y = ifQ b' x y := by rw [h]
@[congr] theorem seqQ_congr (x : Fr → St → Prop) (Q : Ex → Fr → St → Prop) : seqQ x Q = seqQ x Q := rfl
@[congr] theorem blockQ_congr (id : Nat) (Q : Ex → Fr → St → Prop) : blockQ id Q = blockQ id Q := rfl
@[congr] theorem WR_congr {r r' : Res} {Q : Ex → Fr → St → Prop} (h : r = r') : WR r Q = WR r' Q := by rw [h]
@[congr] theorem putV_congr {fr : Fr} {dst : Option Tmp} {s : St} {k : Fr → St → Res} {v v' : Option AV} (h : v = v') : putV fr dst s k v = putV fr dst s k v' := by rw [h]
@[congr] theorem putB_congr {fr : Fr} {dst : Option Tmp} {s : St} {key : Nat} {k : Fr → St → Res} {v v' : Option (AV × AB)} (h : v = v') : putB fr dst s key k v = putB fr dst s key k v' := by rw [h]
@[congr] theorem putK_congr {s s' : St} {k : Fr → St → Res} {v v' : Option Fr} (h : v = v') (hs : s = s') : putK s k v = putK s' k v' := by rw [h, hs]
@[congr] theorem putO_congr {fr : Fr} {dst : Option Tmp} {k : Fr → St → Res} {v v' : Outs} (h : v = v') : putO fr dst k v = putO fr dst k v' := by rw [h]
@[congr] theorem putD_congr {fr : Fr} {dst : Option Tmp} {s : St} {k : Fr → St → Res} {v v' : Option (AV × List AV)} (h : v = v') : putD fr dst s k v = putD fr dst s k v' := by rw [h]
@[congr] theorem textOps_congr {P : Program} {G : Glob} {call : CallF} {ops : Array Oper} {l : List Oper} {i : Nat} {fr fr' : Fr} {s s' : St} (h : fr = fr') (hs : s = s') : textOps P G call ops l i fr s = textOps P G call ops l i fr' s' := by rw [h, hs]
@[congr] theorem code_congr {P : Program} {G : Glob} {call : CallF} {m : Nat} {c : Code} {fr fr' : Fr} {s s' : St} (h : fr = fr') (hs : s = s') : code P G call m c fr s = code P G call m c fr' s' := by rw [h, hs]

theorem seqQ_n (x : Fr → St → Prop) (fr : Fr) (s : St) : seqQ x Q .normal fr s = x fr s := rfl
theorem seqQ_e (x : Fr → St → Prop) (i : Nat) (fr : Fr) (s : St) : seqQ x Q (.exit i) fr s = Q (.exit i) fr s := rfl
theorem seqQ_r (x : Fr → St → Prop) (fr : Fr) (s : St) : seqQ x Q .ret fr s = Q .ret fr s := rfl
theorem seqQ_p (x : Fr → St → Prop) (v : AV) (fr : Fr) (s : St) : seqQ x Q (.pan v) fr s = Q (.pan v) fr s := rfl
theorem blockQ_n (id : Nat) (fr : Fr) (s : St) : blockQ id Q .normal fr s = Q .normal fr s := rfl
theorem blockQ_e (id j : Nat) (fr : Fr) (s : St) : blockQ id Q (.exit j) fr s = if j = id then Q .normal fr s else Q (.exit j) fr s := rfl
theorem blockQ_r (id : Nat) (fr : Fr) (s : St) : blockQ id Q .ret fr s = Q .ret fr s := rfl
theorem blockQ_p (id : Nat) (v : AV) (fr : Fr) (s : St) : blockQ id Q (.pan v) fr s = Q (.pan v) fr s := rfl

def condQ (v : Option AV) (x y : Prop) : Prop := ∃ b, v = some (.bool b) ∧ ifQ b x y
@[congr] theorem condQ_congr {v v' : Option AV} {x y : Prop} (h : v = v') : condQ v x y = condQ v' x y := by rw [h]
theorem condQ_b (b : Bool) (x y : Prop) : condQ (some (.bool b)) x y = ifQ b x y := by
  apply propext
  constructor
  · rintro ⟨c, hc, h⟩; cases hc; exact h
  · intro h; exact ⟨b, rfl, h⟩
theorem wr_cond_eq (c : Operand) (x y : Code) (fr : Fr) : WR (code P G call m (.cond c x y) fr s) Q = condQ (fr.ev c) (WR (code P G call m x fr s) Q) (WR (code P G call m y fr s) Q) := by
  apply propext
  constructor
  · intro h
    rw [code] at h
    split at h
    · rename_i hh; exact ⟨true, hh, h⟩
    · rename_i hh; exact ⟨false, hh, h⟩
    · rw [wr_none] at h; exact h.elim
  · rintro ⟨b, hb, h⟩
    rw [code, hb]
    cases b <;> exact h
theorem wr_region_eq {id : Nat} {ops : Array Oper} (F lc n : Nat) (t : T AV) (df : List (AV × List AV)) (rc : Rc) :
   WR (code P G call m (.region id ops false) ⟨F, lc, n, t, df, rc⟩ s) Q = (lc + ops.toList.length ≤ 1267650600228229401496703205375 ∧ WR (textOps P G call ops ops.toList 0 ⟨F, lc, n, t, df, rc⟩ s) Q) := by
  rw [code]
  unfold region
  simp only [keysOk_mk]
  by_cases h : lc + ops.toList.length ≤ 1267650600228229401496703205375
  · simp only [h, decide_true, true_and]
  · simp only [h, decide_false, wr_none, false_and]
theorem textOps_nil (ops : Array Oper) (i : Nat) (fr : Fr) : textOps P G call ops [] i fr s = some [(.normal, fr.bump i, s)] := rfl
theorem textOps_plain (ops : Array Oper) (i : Nat) (fr : Fr) (dst : Option Tmp) (op : Op) (ty : TypeId) (pos : String) (after : Array Edge) (rest : List Oper) :
    textOps P G call ops (⟨dst, op, ty, pos, after, none⟩ :: rest) i fr s = oneOp P G call dst op i fr s (textOps P G call ops rest (Nat.succ i)) := rfl
def bifR (b : Bool) (x y : Res) : Res := match b with | true => x | false => y
@[congr] theorem bifR_congr {b b' : Bool} {x y : Res} (h : b = b') : bifR b x y = bifR b' x y := by rw [h]
theorem bifR_t (x y : Res) : bifR true x y = x := rfl
theorem bifR_f (x y : Res) : bifR false x y = y := rfl
theorem wr_bifR (b : Bool) (x y : Res) : WR (bifR b x y) Q = ifQ b (WR x Q) (WR y Q) := by cases b <;> rfl
theorem textOps_guard (ops : Array Oper) (i : Nat) (fr : Fr) (dst : Option Tmp) (op : Op) (ty : TypeId) (pos : String) (after : Array Edge) (g : Nat × Bool) (rest : List Oper) :
    textOps P G call ops (⟨dst, op, ty, pos, after, some g⟩ :: rest) i fr s = bifR (wantedA fr ops ⟨dst, op, ty, pos, after, some g⟩) (oneOp P G call dst op i fr s (textOps P G call ops rest (Nat.succ i))) (putK s (textOps P G call ops rest (Nat.succ i)) (fr.put dst .undef)) := by
  rw [textOps]
  cases wantedA fr ops ⟨dst, op, ty, pos, after, some g⟩ <;> rfl
noncomputable def gBool : Option AV → Bool → Bool
  | some (.bool b), want => b == want
  | _, _ => false
theorem gBool_t (b : Bool) : gBool (some (.bool b)) true = b := by cases b <;> rfl
theorem gBool_f (b : Bool) : gBool (some (.bool b)) false = !b := by cases b <;> rfl
theorem gBool_b (b w : Bool) : gBool (some (.bool b)) w = (b == w) := rfl
theorem wantedA_eq (fr : Fr) (ops : Array Oper) (dst : Option Tmp) (op : Op) (ty : TypeId) (pos : String) (after : Array Edge) (j : Nat) (w : Bool) :
    wantedA fr ops ⟨dst, op, ty, pos, after, some (j, w)⟩ = match ops.toList[j]? with | some g => (match g.dst with | some d => gBool (fr.t.get d) w | none => false) | none => false := by
  simp only [wantedA]
  cases ops.toList[j]? with
  | none => rfl
  | some g =>
    simp only
    cases g.dst with
    | none => rfl
    | some d =>
      simp only
      cases fr.t.get d with
      | none => rfl
      | some v => cases v <;> rfl
theorem oneOp_pure {dst : Option Tmp} {op : Op} {i : Nat} {fr : Fr} {k : Fr → St → Res} (h : clsOf op = .pure) : oneOp P G call dst op i fr s k = putV fr dst s k (pureOp P fr op) := by rw [oneOp, h]
theorem putV_some (fr : Fr) (dst : Option Tmp) (k : Fr → St → Res) (v : AV) : putV fr dst s k (some v) = putK s k (fr.put dst v) := rfl
theorem putK_some (fr : Fr) (k : Fr → St → Res) : putK s k (some fr) = k fr s := rfl
theorem putB_some (fr : Fr) (dst : Option Tmp) (key : Nat) (k : Fr → St → Res) (v : AV) (b : AB) : putB fr dst s key k (some (v, b)) = putK (s.upd key b) k (fr.put dst v) := rfl
theorem putO_one (fr : Fr) (dst : Option Tmp) (k : Fr → St → Res) (v : AV) (s' : St) : putO fr dst k (some [.val v s']) = putK s' k (fr.put dst v) := by
  simp only [putO, outsTo]
  cases hp : putK s' k (fr.put dst v) <;> rfl
theorem putO_pan (fr : Fr) (dst : Option Tmp) (k : Fr → St → Res) (v : AV) (s' : St) : putO fr dst k (some [.pan v s']) = some [(.pan v, fr, s')] := rfl

/-! ### memory -/
theorem hget_same (h : Heap) (k : Nat) (b : AB) : hget (hset h k b) k = some b := by rw [hget_hset, if_pos rfl]
theorem hget_other {h : Heap} {k j : Nat} {b : AB} (hne : j ≠ k) : hget (hset h k b) j = hget h j := by rw [hget_hset, if_neg hne]
theorem hget_hset_ite (h : Heap) (k j : Nat) (b : AB) : hget (hset h k b) j = if j = k then some b else hget h j := hget_hset h k j b

/-! ### numbers -/
theorem intOp_eql (t : TypeId) (k : IntKind) (a b : Int) : intOp P .eql t k k a b = some (.bool (a == b)) := by simp [intOp, binOp, runP, ofS, Op.intCmp, pure]
theorem intOp_neq (t : TypeId) (k : IntKind) (a b : Int) : intOp P .neq t k k a b = some (.bool (a != b)) := by simp [intOp, binOp, runP, ofS, Op.intCmp, pure]
theorem intOp_lss (t : TypeId) (k : IntKind) (a b : Int) : intOp P .lss t k k a b = some (.bool (decide (a < b))) := by simp [intOp, binOp, runP, ofS, Op.intCmp, pure]
theorem intOp_leq (t : TypeId) (k : IntKind) (a b : Int) : intOp P .leq t k k a b = some (.bool (decide (a ≤ b))) := by simp [intOp, binOp, runP, ofS, Op.intCmp, pure]
theorem intOp_gtr (t : TypeId) (k : IntKind) (a b : Int) : intOp P .gtr t k k a b = some (.bool (decide (b < a))) := by simp [intOp, binOp, runP, ofS, Op.intCmp, pure]
theorem intOp_geq (t : TypeId) (k : IntKind) (a b : Int) : intOp P .geq t k k a b = some (.bool (decide (b ≤ a))) := by simp [intOp, binOp, runP, ofS, Op.intCmp, pure]
def inR (n : Int) : Prop := -9223372036854775808 ≤ n ∧ n ≤ 9223372036854775807
theorem addI64_in {n : Int} (h : inR n) : addI64 n = some (.int .i64 n) := by
  have : inI64 n = true := by
    obtain ⟨h1, h2⟩ := h
    cases n with
    | ofNat k => simp only [inI64]; rw [Nat.blt_eq]; simp at h2; omega
    | negSucc k => simp only [inI64]; rw [Nat.blt_eq]; omega
  rw [addI64, this]
theorem intOp_add {t : TypeId} {a b : Int} (h : inR (a + b)) : intOp P .add t .i64 .i64 a b = some (.int .i64 (a + b)) := addI64_in h
theorem intOp_sub {t : TypeId} {a b : Int} (h : inR (a - b)) : intOp P .sub t .i64 .i64 a b = some (.int .i64 (a - b)) := addI64_in h
/-! ### the body of a function -/
theorem body_mk {fn : Func} {c : Code} (hb : fn.body = some c) (args : List AV) (h : Heap) (F : Nat) (rc : Rc) (n : Nat) (hn : max fn.ntmps args.length = n) :
    body P G call m fn args ⟨h, F⟩ rc = code P G call m c ⟨F, 0, n, T.e.setList 0 args, [], rc⟩ ⟨h, F + 1⟩ := by
  unfold body
  rw [hb]
  simp only [natC_eq, T.setListC_eq]
  subst hn
  rfl
/-! ### reading -/
theorem loadA_p (h : Heap) (t : TypeId) (id off n : Nat) (ha : isAggT P t = some true) (hs : sizeT P t = some n) : loadA P G h t (.ptr id off) = someAgg (rdAB (hget h id) off n) := by
  simp only [loadA, ha, hs, readAt, readCells_eq]
  cases rdAB (hget h id) off n <;> rfl
noncomputable def oneCell : Option (List AV) → Option AV
  | some [c] => some c
  | _ => none
theorem loadA_s (h : Heap) (t : TypeId) (id off : Nat) (ha : isAggT P t = some false) : loadA P G h t (.ptr id off) = oneCell (rdAB (hget h id) off 1) := by
  simp only [loadA, ha, readAt, readCells_eq]
  rcases rdAB (hget h id) off 1 with _ | l
  · rfl
  · rcases l with _ | ⟨c, l⟩
    · rfl
    · rcases l with _ | ⟨d, l⟩ <;> rfl
theorem oneCell_one (c : AV) : oneCell (some [c]) = some c := rfl
/-! ### rules -/
def nextQ (P : Program) (G : Glob) (call : CallF) (m : Nat) (b : Code) (Q : Ex → Fr → St → Prop) (fr : Fr) (s : St) : Prop := WR (code P G call m b fr s) Q
section
variable {fr : Fr}
theorem r_seq {a b : Code} (h : WR (code P G call m a fr s) (seqQ (nextQ P G call m b Q) Q)) : WR (code P G call m (.seq a b) fr s) Q := by rw [wr_seq]; exact h
theorem r_next {b : Code} {Q' : Ex → Fr → St → Prop} (h : WR (code P G call m b fr s) Q) : seqQ (nextQ P G call m b Q) Q' .normal fr s := h
theorem r_seq_exit {x : Fr → St → Prop} {i : Nat} (h : Q (.exit i) fr s) : seqQ x Q (.exit i) fr s := h
theorem r_seq_ret {x : Fr → St → Prop} (h : Q .ret fr s) : seqQ x Q .ret fr s := h
theorem r_seq_pan {x : Fr → St → Prop} {v : AV} (h : Q (.pan v) fr s) : seqQ x Q (.pan v) fr s := h
theorem r_block {id : Nat} {a : Code} (h : WR (code P G call m a fr s) (blockQ id Q)) : WR (code P G call m (.block id a) fr s) Q := by rw [wr_block]; exact h
theorem r_blk_n {id : Nat} (h : Q .normal fr s) : blockQ id Q .normal fr s := h
theorem r_blk_ret {id : Nat} (h : Q .ret fr s) : blockQ id Q .ret fr s := h
theorem r_blk_pan {id : Nat} {v : AV} (h : Q (.pan v) fr s) : blockQ id Q (.pan v) fr s := h
theorem r_blk_hit {id : Nat} (h : Q .normal fr s) : blockQ id Q (.exit id) fr s := by rw [blockQ_e, if_pos rfl]; exact h
theorem r_blk_miss {id j : Nat} (hne : (j == id) = false) (h : Q (.exit j) fr s) : blockQ id Q (.exit j) fr s := by
  rw [blockQ_e, if_neg (by simpa using hne)]; exact h
theorem r_cond {c : Operand} {x y : Code} {b : Bool} (hc : fr.ev c = some (.bool b)) (h : ifQ b (WR (code P G call m x fr s) Q) (WR (code P G call m y fr s) Q)) : WR (code P G call m (.cond c x y) fr s) Q := by
  rw [wr_cond_eq, hc, condQ_b]; exact h
theorem r_skip (h : Q .normal fr s) : WR (code P G call m .skip fr s) Q := by rw [wr_skip]; exact h
theorem r_ret (h : Q .ret fr s) : WR (code P G call m .ret fr s) Q := by rw [wr_ret]; exact h
theorem r_exit {i : Nat} (h : Q (.exit i) fr s) : WR (code P G call m (.exit i) fr s) Q := by rw [wr_exit]; exact h
theorem r_one {e : Ex} (h : Q e fr s) : WR (some [(e, fr, s)]) Q := by rw [wr_one]; exact h
theorem r_region {id : Nat} {ops : Array Oper} {F lc n : Nat} {t : T AV} {df : List (AV × List AV)} {rc : Rc} {r : Res} (hk : lc + ops.toList.length ≤ 1267650600228229401496703205375)
    (he : textOps P G call ops ops.toList 0 ⟨F, lc, n, t, df, rc⟩ s = r) (h : WR r Q) : WR (code P G call m (.region id ops false) ⟨F, lc, n, t, df, rc⟩ s) Q := by
  rw [wr_region_eq]; exact ⟨hk, by rw [he]; exact h⟩
end
/-! ### loads and stores -/
noncomputable def loadW : Option Bool → Option Nat → Option AB → Nat → Option AV
  | some true, some n, b, off => someAgg (rdAB b off n)
  | some false, _, b, off => oneCell (rdAB b off 1)
  | _, _, _, _ => none
theorem loadW_a (n : Nat) (b : Option AB) (off : Nat) : loadW (some true) (some n) b off = someAgg (rdAB b off n) := rfl
theorem loadW_s (n : Option Nat) (b : Option AB) (off : Nat) : loadW (some false) n b off = oneCell (rdAB b off 1) := by cases n <;> rfl
theorem loadA_w (h : Heap) (t : TypeId) (id off : Nat) : loadA P G h t (.ptr id off) = loadW (isAggT P t) (sizeT P t) (hget h id) off := by
  simp only [loadA, readAt, readCells_eq]
  cases isAggT P t with
  | none => rfl
  | some b => cases b with
    | true =>
      cases sizeT P t with
      | none => rfl
      | some n => simp only [loadW_a]; cases rdAB (hget h id) off n <;> rfl
    | false =>
      rw [loadW_s]
      rcases rdAB (hget h id) off 1 with _ | l
      · rfl
      · rcases l with _ | ⟨c, l⟩
        · rfl
        · rcases l with _ | ⟨d, l⟩ <;> rfl
noncomputable def stOut (fc : Nat) : Option Heap → Outs
  | some h' => some [.val .undef ⟨h', fc⟩]
  | none => none
theorem stOut_s (fc : Nat) (h' : Heap) : stOut fc (some h') = some [.val .undef ⟨h', fc⟩] := rfl
theorem aSt_w (h : Heap) (fc : Nat) (id off : Nat) (v : AV) (n : Nat) : aSt ⟨h, fc⟩ (some (.ptr id off)) (some v) (some n) = if v.cells.length = n then stOut fc (wrAB h id (hget h id) off v.cells) else none := by
  simp only [aSt, writeCells_wr]
  by_cases e : v.cells.length = n
  · rw [if_pos e, e]
    have : Nat.beq n n = true := Nat.beq_refl n
    rw [this]
    simp only
    cases wrAB h id (hget h id) off v.cells <;> rfl
  · rw [if_neg e]
    have : Nat.beq v.cells.length n = false := by
      cases hb : Nat.beq v.cells.length n with
      | true => exact absurd (Nat.eq_of_beq_eq_true hb) e
      | false => rfl
    rw [this]
theorem pUn_not (b : Bool) : pUn P .not (some (.bool b)) = some (.bool (!b)) := by
  simp [pUn, pUn2, toS, Op.unary, runP, ofS, pure]
theorem callTo_s (K : CallF) (f : FuncId) (l : List AV) : callTo K s (some (f, l)) = K f l s := rfl
theorem someAgg_s (l : List AV) : someAgg (some l) = some (.agg l) := rfl
end Go.Ai

namespace Go.Ai
open Go
variable {P : Program} {G : Glob}

/-! ### what is known of a call -/
def Snd (P : Program) (G : Glob) (f : FuncId) (args : List AV) (s : St) (outs : List Out) : Prop :=
  ∀ (base : Nat) (ρ : Map) (w : World) (vs : List Value), RVs ρ args vs → RM G base ρ s w → Meets P ((callFunc f vs.toArray).run P w) (CallPost base ρ s w outs)
def SndQ (P : Program) (G : Glob) (f : FuncId) (args : List AV) (s : St) (Q : Out → Prop) : Prop := ∃ outs, Snd P G f args s outs ∧ ∀ o, o ∈ outs → Q o
def KOK (P : Program) (G : Glob) (K : CallF) : Prop := ∀ f args s outs, K f args s = some outs → Snd P G f args s outs
theorem KOK.at {K : CallF} (h : KOK P G K) (base : Nat) : CallOK P G base K := fun f args s outs h' ρ w vs rv rm => h f args s outs h' base ρ w vs rv rm
theorem kok_call {X : Ext} (HX : XOK P G X) (hm : P.follows .mixedOrders = true) (hn : NoNum P) (m n : Nat) : KOK P G (call P G X m n) :=
  fun f args s outs h _ ρ w vs rv rm => call_sound HX hm hn m n f args s outs h ρ w vs rv rm

theorem snd_body {K : CallF} (HK : KOK P G K) (hm : P.follows .mixedOrders = true) (hn : NoNum P) {m : Nat} {f : FuncId} {fn : Func} {args : List AV} {s : St} {l : List (Ex × Fr × St)} {outs : List Out}
    (hf : P.funcs[f]? = some fn) (hb : body P G K m fn args s .no = some l) (he : ends P G K m fn l = some outs) : Snd P G f args s outs := by
  intro base ρ w vs rv rm
  have HC := HK.at base
  obtain ⟨c, hc, hwp⟩ := body_sound HC hm hb rv rm
  rw [callFunc_enter hn hf hc]
  refine calls_of_wp_defers hf hc fun b k cs => ?_
  obtain ⟨e, a', cs', w', hpost, harr⟩ := hwp cs cs rfl b k trivial
  obtain ⟨x, fr', s', ρ', h1, h2, h3, h4, h5, h6, h7, h8⟩ := hpost
  have hrc := h8 rfl
  rw [hrc] at h7
  have hcs : cs' = cs := h7
  subst hcs
  refine ⟨e, a', w', ?_, harr⟩
  obtain ⟨u, o', hu, hl, hs⟩ := ends_spec he x fr' s' h1
  rcases hu with ⟨hx, hu⟩ | ⟨v, hx, hu⟩
  · subst hu
    have := leaves_sound HC hm hn fr'.df .back s' o' hl hs ρ' a'.defers .returning w' h5 rfl h3 h4 h6
    rcases hx with hx | hx
    · subst hx
      have he : e = .normal := h2
      subst he
      exact this
    · subst hx
      have he : e = .ret := h2
      subst he
      exact this
  · subst hx hu
    obtain ⟨u, ru, he⟩ := h2
    subst he
    exact leaves_sound HC hm hn fr'.df (.pan v) s' o' hl hs ρ' a'.defers _ w' h5 ⟨u, ru, rfl⟩ h3 h4 h6

/-! ### the end of a body -/
def retQ (P : Program) (G : Glob) (K : CallF) (m : Nat) (fn : Func) (Q : Out → Prop) : Ex → Fr → St → Prop
  | .normal, fr, s => WO (leave P G K m fn fr fr.df .back s) Q
  | .ret, fr, s => WO (leave P G K m fn fr fr.df .back s) Q
  | .pan v, fr, s => WO (leave P G K m fn fr fr.df (.pan v) s) Q
  | .exit _, _, _ => False
theorem wo_ends {K : CallF} {m : Nat} {fn : Func} {Q : Out → Prop} : ∀ {l : List (Ex × Fr × St)}, (∀ e fr s, (e, fr, s) ∈ l → retQ P G K m fn Q e fr s) → WO (ends P G K m fn l) Q
  | [], _ => by rw [ends, wo_nil]; trivial
  | (e, fr, s) :: rest, h => by
    have h0 := h e fr s List.mem_cons_self
    have ih := wo_ends (K := K) (m := m) (fn := fn) (Q := Q) fun e' fr' s' hm => h e' fr' s' (List.mem_cons_of_mem _ hm)
    obtain ⟨b, hb, hqb⟩ := ih
    have two : ∀ a : List Out, (∀ x, x ∈ a → Q x) → ∀ x, x ∈ a ++ b → Q x := fun a hq x hx => (List.mem_append.1 hx).elim (hq x) (hqb x)
    cases e with
    | exit j => exact h0.elim
    | normal =>
      obtain ⟨a, ha, hq⟩ := h0
      simp only [ends, ha, hb]
      cases rest with
      | nil => exact ⟨a, rfl, hq⟩
      | cons y ys => exact ⟨a ++ b, rfl, two a hq⟩
    | ret =>
      obtain ⟨a, ha, hq⟩ := h0
      simp only [ends, ha, hb]
      cases rest with
      | nil => exact ⟨a, rfl, hq⟩
      | cons y ys => exact ⟨a ++ b, rfl, two a hq⟩
    | pan v =>
      obtain ⟨a, ha, hq⟩ := h0
      simp only [ends, ha, hb]
      cases rest with
      | nil => exact ⟨a, rfl, hq⟩
      | cons y ys => exact ⟨a ++ b, rfl, two a hq⟩
theorem sndQ_body {K : CallF} (HK : KOK P G K) (hm : P.follows .mixedOrders = true) (hn : NoNum P) {m : Nat} {f : FuncId} {fn : Func} {args : List AV} {s : St} {Q : Out → Prop}
    (hf : P.funcs[f]? = some fn) (h : WR (body P G K m fn args s .no) (retQ P G K m fn Q)) : SndQ P G f args s Q := by
  obtain ⟨l, hl, h⟩ := h
  obtain ⟨outs, ho, hq⟩ := wo_ends h
  exact ⟨outs, snd_body HK hm hn hf hl ho, hq⟩
theorem SndQ.mono {f : FuncId} {args : List AV} {s : St} {Q Q' : Out → Prop} (h : SndQ P G f args s Q) (hq : ∀ o, Q o → Q' o) : SndQ P G f args s Q' :=
  let ⟨outs, h1, h2⟩ := h; ⟨outs, h1, fun o ho => hq o (h2 o ho)⟩
/-- one way back, nothing deferred -/
theorem ret_back {K : CallF} {m : Nat} {fn : Func} {Q : Out → Prop} {fno lc n : Nat} {t : T AV} {rc : Rc} {s : St} {v : AV} (hr : resultOf P G ⟨fno, lc, n, t, [], rc⟩ s.h fn.results = some v) (hq : Q (.val v s)) : retQ P G K m fn Q .ret ⟨fno, lc, n, t, [], rc⟩ s := by
  show WO (leave P G K m fn _ [] .back s) Q
  simp only [leave, hr]
  rw [wo_one]; exact hq
theorem ret_back_n {K : CallF} {m : Nat} {fn : Func} {Q : Out → Prop} {fno lc n : Nat} {t : T AV} {rc : Rc} {s : St} {v : AV} (hr : resultOf P G ⟨fno, lc, n, t, [], rc⟩ s.h fn.results = some v) (hq : Q (.val v s)) : retQ P G K m fn Q .normal ⟨fno, lc, n, t, [], rc⟩ s :=
  ret_back hr hq

/-! ### what is left behind is forgotten -/
mutual
/-- the names of a value lie in memory -/
def Kin (g : GetF) : AV → Prop
  | .ptr i _ => live g i
  | .slice i _ _ _ _ => live g i
  | .map i => live g i
  | .fn _ a c => Kins g a ∧ Kins g c
  | .iface _ v => Kin g v
  | .agg l => Kins g l
  | .tup l => Kins g l
  | _ => True
def Kins (g : GetF) : List AV → Prop
  | [] => True
  | a :: l => Kin g a ∧ Kins g l
end
theorem live_some {ρ : Map} {base : Nat} {g : GetF} {w : World} (rh : RH ρ base g w) {i : Nat} (h : live g i) : ∃ e, ρ i = some e := by
  obtain ⟨ab, hi, hd⟩ := h
  obtain ⟨e, _, h1, _⟩ := rh.blk i ab hi hd
  exact ⟨e, h1⟩
mutual
theorem rv_back {ρ ρ' : Map} {base : Nat} {g : GetF} {w : World} (rh : RH ρ base g w) (hm : Mono ρ ρ') : ∀ (a : AV) (v : Value), Kin g a → RV ρ' a v → RV ρ a v
  | .bool _, _, _, r => r
  | .int _ _, _, _, r => r
  | .str _, _, _, r => r
  | .nilp, _, _, r => r
  | .ptr _ _, _, h, ⟨e, he, r⟩ => by
    obtain ⟨e0, h0⟩ := live_some rh h
    rw [hm _ _ h0] at he; cases he
    exact ⟨_, h0, r⟩
  | .gptr _ _, _, _, r => r
  | .nils, _, _, r => r
  | .slice _ _ _ _ _, _, h, ⟨e, he, r⟩ => by
    obtain ⟨e0, h0⟩ := live_some rh h
    rw [hm _ _ h0] at he; cases he
    exact ⟨_, h0, r⟩
  | .nilm, _, _, r => r
  | .map _, _, h, ⟨e, he, r⟩ => by
    obtain ⟨e0, h0⟩ := live_some rh h
    rw [hm _ _ h0] at he; cases he
    exact ⟨_, h0, r⟩
  | .fn _ a c, _, ⟨h1, h2⟩, ⟨a', c', ra, rc, r⟩ => ⟨a', c', rvs_back rh hm a a' h1 ra, rvs_back rh hm c c' h2 rc, r⟩
  | .nilf, _, _, r => r
  | .iface _ x, _, h, ⟨y, rx, r⟩ => ⟨y, rv_back rh hm x y h rx, r⟩
  | .nili, _, _, r => r
  | .agg cs, _, h, ⟨vs, rs, r⟩ => ⟨vs, rvs_back rh hm cs vs h rs, r⟩
  | .tup cs, _, h, ⟨vs, rs, r⟩ => ⟨vs, rvs_back rh hm cs vs h rs, r⟩
theorem rvs_back {ρ ρ' : Map} {base : Nat} {g : GetF} {w : World} (rh : RH ρ base g w) (hm : Mono ρ ρ') : ∀ (a : List AV) (v : List Value), Kins g a → RVs ρ' a v → RVs ρ a v
  | [], _, _, r => r
  | a :: as', _, ⟨h1, h2⟩, ⟨v, vs, ra, rs, r⟩ => ⟨v, vs, rv_back rh hm a v h1 ra, rvs_back rh hm as' vs h2 rs, r⟩
end
mutual
/-- what stood for a value before, and stands for one behind -/
theorem rv_two {ρ ρ' : Map} (hm : Mono ρ ρ') : ∀ (a : AV) (v0 v : Value), RV ρ a v0 → RV ρ' a v → RV ρ a v
  | .bool _, _, _, _, r => r
  | .int _ _, _, _, _, r => r
  | .str _, _, _, _, r => r
  | .nilp, _, _, _, r => r
  | .ptr _ _, _, _, ⟨e0, h0, _⟩, ⟨e, he, r⟩ => by rw [hm _ _ h0] at he; cases he; exact ⟨_, h0, r⟩
  | .gptr _ _, _, _, _, r => r
  | .nils, _, _, _, r => r
  | .slice _ _ _ _ _, _, _, ⟨e0, h0, _⟩, ⟨e, he, r⟩ => by rw [hm _ _ h0] at he; cases he; exact ⟨_, h0, r⟩
  | .nilm, _, _, _, r => r
  | .map _, _, _, ⟨e0, h0, _⟩, ⟨e, he, r⟩ => by rw [hm _ _ h0] at he; cases he; exact ⟨_, h0, r⟩
  | .fn _ a c, _, _, ⟨a0, c0, ra0, rc0, _⟩, ⟨a', c', ra, rc, r⟩ => ⟨a', c', rvs_two hm a a0 a' ra0 ra, rvs_two hm c c0 c' rc0 rc, r⟩
  | .nilf, _, _, _, r => r
  | .iface _ x, _, _, ⟨y0, rx0, _⟩, ⟨y, rx, r⟩ => ⟨y, rv_two hm x y0 y rx0 rx, r⟩
  | .nili, _, _, _, r => r
  | .agg cs, _, _, ⟨vs0, rs0, _⟩, ⟨vs, rs, r⟩ => ⟨vs, rvs_two hm cs vs0 vs rs0 rs, r⟩
  | .tup cs, _, _, ⟨vs0, rs0, _⟩, ⟨vs, rs, r⟩ => ⟨vs, rvs_two hm cs vs0 vs rs0 rs, r⟩
theorem rvs_two {ρ ρ' : Map} (hm : Mono ρ ρ') : ∀ (a : List AV) (v0 v : List Value), RVs ρ a v0 → RVs ρ' a v → RVs ρ a v
  | [], _, _, _, r => r
  | a :: as', _, _, ⟨v0, vs0, ra0, rs0, _⟩, ⟨v, vs, ra, rs, r⟩ => ⟨v, vs, rv_two hm a v0 v ra0 ra, rvs_two hm as' vs0 vs rs0 rs, r⟩
end
theorem res_two {ρ ρ' : Map} (hm : Mono ρ ρ') : ∀ {es : MEs} {l0 l : List MapEntry}, REs ρ es l0 → REs ρ' es l → REs ρ es l
  | [], _, _, _, r => r
  | (_, _, _) :: _, _, _, ⟨_, _, _, rk0, rv0, rs0, _⟩, ⟨k, v, l, rk, rv, rs, e⟩ => ⟨k, v, l, rv_two hm _ _ _ rk0 rk, rv_two hm _ _ _ rv0 rv, res_two hm rs0 rs, e⟩
theorem rb_two {ρ ρ' : Map} (hm : Mono ρ ρ') {e : Ent} {ab : AB} {ob0 ob : Obj} (r0 : RB ρ e ab ob0) (r : RB ρ' e ab ob) : RB ρ e ab ob := by
  cases ab with
  | dead => trivial
  | row cs n es =>
    obtain ⟨c, ty, lo, hi, e1, h1, h2, h3, h4, h5⟩ := r
    obtain ⟨c0, ty0, lo0, hi0, e10, h10, h20, h30, h40, h50⟩ := r0
    exact ⟨c, ty, lo, hi, e1, h1, h2, h3, h4, fun i hi av ha => by
      obtain ⟨v, hv, rv⟩ := h5 i hi av ha
      obtain ⟨v0, _, rv0⟩ := h50 i hi av ha
      exact ⟨v, hv, rv_two hm av v0 v rv0 rv⟩⟩
  | rom cs n =>
    obtain ⟨c, ty, fz, e1, h1, h5⟩ := r
    obtain ⟨c0, ty0, fz0, e10, h10, h50⟩ := r0
    exact ⟨c, ty, fz, e1, h1, fun i hi av ha => by
      obtain ⟨v, hv, rv⟩ := h5 i hi av ha
      obtain ⟨v0, _, rv0⟩ := h50 i hi av ha
      exact ⟨v, hv, rv_two hm av v0 v rv0 rv⟩⟩
  | map es clock => obtain ⟨ents, e1, r⟩ := r; obtain ⟨_, _, r0⟩ := r0; exact ⟨ents, e1, res_two hm r0 r⟩
  | mit m since seen stepped =>
    obtain ⟨m', e0, e1, r⟩ := r
    obtain ⟨m0, _, _, r0⟩ := r0
    refine ⟨m', e0, e1, ?_⟩
    cases m with
    | none => exact r
    | some id =>
      obtain ⟨e', he, hm'⟩ := r
      obtain ⟨e0', he0, _⟩ := r0
      rw [hm _ _ he0] at he; cases he
      exact ⟨_, he0, hm'⟩
/-- what lay there lies there still -/
def Same (s s' : St) : Prop := ∀ i ab, hget s.h i = some ab → ab ≠ .dead → hget s'.h i = some ab
theorem Same.refl (s : St) : Same s s := fun _ _ h _ => h
theorem Same.trans {a b c : St} (h : Same a b) (k : Same b c) : Same a c := fun i ab hi hd => k i ab (h i ab hi hd) hd
theorem Adv.forget {base : Nat} {ρ ρ' : Map} {s s' : St} {w w' : World} (rm : RM G base ρ s w) (h : Adv base (fun _ => False) ρ s w ρ' s' w') (hs : Same s s') : Adv base (fun _ => False) ρ s w ρ s w' := by
  refine ⟨⟨Mono.refl ρ, h.st.keeps, ⟨fun i ab hi hd => ?_, rm.rh.inj⟩, fun b hb => .inl hb⟩, Nat.le_refl _, fun _ _ _ => rfl, rm.hi⟩
  obtain ⟨e0, ob0, h1, h2, h3, h4⟩ := rm.rh.blk i ab hi hd
  obtain ⟨e, ob, g1, g2, g3, g4⟩ := h.st.rh.blk i ab (hs i ab hi hd) hd
  rw [h.st.mono _ _ h1] at g1; cases g1
  exact ⟨_, ob, h1, g2, g3, rb_two h.st.mono h4 g4⟩
/-- A CALL THAT LEAVES WHAT WAS THERE: its garbage is forgotten. -/
theorem snd_forget {f : FuncId} {args : List AV} {s : St} {v : AV} (hk : Kin (hget s.h) v) (h : SndQ P G f args s (fun o => ∃ s', o = .val v s' ∧ Same s s')) : Snd P G f args s [.val v s] := by
  intro base ρ w vs rv rm
  obtain ⟨outs, h1, h2⟩ := h
  refine (h1 base ρ w vs rv rm).mono ?_
  rintro e w' ⟨ρ', ⟨v', s', u, ho, he, ru, hadv⟩ | ⟨v', s', u, ho, he, ru, hadv⟩⟩
  · obtain ⟨s'', e1, hs⟩ := h2 _ ho
    cases e1
    exact ⟨ρ, .inl ⟨v, s, u, List.mem_singleton.2 rfl, he, rv_back rm.rh hadv.st.mono v u hk ru, hadv.forget rm hs⟩⟩
  · obtain ⟨s'', e1, hs⟩ := h2 _ ho
    cases e1
/-- no name lies above the state's -/
def Wf (s : St) : Prop := ∀ i ab, hget s.h i = some ab → ab ≠ .dead → i < ky s.fc 0
theorem wf_of_rm {base : Nat} {ρ : Map} {s : St} {w : World} (rm : RM G base ρ s w) : Wf s := by
  intro i ab hi hd
  obtain ⟨e, _, h1, _⟩ := rm.rh.blk i ab hi hd
  rcases Nat.lt_or_ge i (ky s.fc 0) with h | h
  · exact h
  · have e0 : ky s.fc 0 = s.fc * KK := by unfold ky; rw [Nat.add_zero, Nat.mul_comm]; exact congrArg (s.fc * ·) (Eq.trans rfl (Eq.refl KK))
    rw [e0] at h
    have := rm.hi i h
    rw [h1] at this; cases this
theorem snd_wf {f : FuncId} {args : List AV} {s : St} {outs : List Out} (h : Wf s → Snd P G f args s outs) : Snd P G f args s outs :=
  fun base ρ w vs rv rm => h (wf_of_rm rm) base ρ w vs rv rm
theorem Same.base (h : Heap) (F F' : Nat) : Same ⟨h, F⟩ ⟨h, F'⟩ := fun _ _ h _ => h
theorem Same.hset {h h' : Heap} {F F2 k : Nat} {b : AB} (hw : Wf ⟨h, F⟩) (hs : Same ⟨h, F⟩ ⟨h', F⟩) (hk : ky F 0 ≤ k) : Same ⟨h, F⟩ ⟨hset h' k b, F2⟩ := by
  intro i ab hi hd
  have := hw i ab hi hd
  simp only at this
  show hget (Ai.hset h' k b) i = some ab
  rw [hget_hset, if_neg (by omega)]
  exact hs i ab hi hd
theorem ky_le (F c : Nat) : ky F 0 ≤ ky F c := by unfold ky; omega
noncomputable def K0 : CallF := fun _ _ _ => none
theorem kok0 : KOK P G K0 := fun f args s outs h => by cases h
/-- no world meets a state whose names lie above: nothing is left behind -/
theorem snd_val {f : FuncId} {args : List AV} {h : Heap} {F : Nat} {v : AV} (hk : Kin (hget h) v) (hs : Wf ⟨h, F⟩ → SndQ P G f args ⟨h, F⟩ (fun o => ∃ s', o = .val v s' ∧ Same ⟨h, F⟩ s')) : Snd P G f args ⟨h, F⟩ [.val v ⟨h, F⟩] :=
  snd_wf fun hw => snd_forget hk (hs hw)
/-- a run that was reckoned in an empty memory -/
theorem snd_true {X : Ext} (HX : XOK P [] X) (hm : P.follows .mixedOrders = true) (hn : NoNum P) {m n f : Nat} (h : saysTrue (call P [] X m n f [] ⟨.e, 0⟩) = true) {fn : Func} {c : Code} (hf : P.funcs[f]? = some fn) (hb : fn.body = some c) (s : St) : Snd P [] f [] s [.val (.bool true) s] := by
  intro base ρ w vs rv rm
  simp only [RVs] at rv
  subst rv
  rw [callFunc_enter hn hf hb]
  have := says_true HX hm hn h hf hb (base := w.heap.size) (w := w) (fun g l h => by simp [gget] at h) (Nat.le_refl _)
  refine Calls.mono this ?_
  rintro e w' ⟨he, hk⟩
  exact ⟨ρ, .inl ⟨.bool true, s, .bool true, List.mem_singleton.2 rfl, he, rfl, rm.keeps hk⟩⟩
end Go.Ai

/-! A run with unknowns, one operation at a time. -/
namespace Go.Ai
open Go
variable {P : Program} {G : Glob} {K : CallF} {m : Nat} {Q : Ex → Fr → St → Prop}

theorem T.set_n {α : Type} (l r : T α) (v : Option α) (k : Nat) (x : α) : (T.n l v r).set k x = if k = 0 then .n l (some x) r else if k % 2 = 1 then .n (l.set (k / 2) x) v r else .n l v (r.set (k / 2 - 1) x) := by
  unfold T.set
  rw [T.setF_n]
  by_cases h0 : k = 0
  · rw [if_pos h0, if_pos h0]
  · rw [if_neg h0, if_neg h0]
    by_cases h1 : k % 2 = 1
    · rw [if_pos h1, if_pos h1, T.setF_fuel k (k / 2 + 1) _ _ _ (by omega) (by omega)]
    · rw [if_neg h1, if_neg h1, T.setF_fuel k (k / 2 - 1 + 1) _ _ _ (by omega) (by omega)]
theorem T.set_e {α : Type} (k : Nat) (x : α) : (T.e : T α).set k x = if k = 0 then .n .e (some x) .e else if k % 2 = 1 then .n ((T.e : T α).set (k / 2) x) none .e else .n .e none ((T.e : T α).set (k / 2 - 1) x) := by
  have : (T.e : T α).set k x = (T.n .e none .e).set k x := by unfold T.set; exact T.setF_e _ _ _
  rw [this, T.set_n]

noncomputable def stV (fr : Fr) (dst : Option Tmp) (s : St) : Option AV → Option (Fr × St)
  | some v => match fr.put dst v with
    | some fr' => some (fr', s)
    | none => none
  | none => none
noncomputable def stB (fr : Fr) (dst : Option Tmp) (s : St) (key : Nat) : Option (AV × AB) → Option (Fr × St)
  | some (v, b) => match fr.put dst v with
    | some fr' => some (fr', s.upd key b)
    | none => none
  | none => none
noncomputable def stO (fr : Fr) (dst : Option Tmp) : Outs → Option (Fr × St)
  | some [.val v s] => match fr.put dst v with
    | some fr' => some (fr', s)
    | none => none
  | _ => none
noncomputable def stHeavy (P : Program) (K : CallF) (dst : Option Tmp) (i : Nat) (fr : Fr) (s : St) (op : Op) : Option (Fr × St) :=
  match op with
  | .defer _ => none
  | .call c => match c.callee with
    | .builtin .recover => none
    | _ => stO fr dst (heavyCall P K fr (Ai.keyOf fr i) s c)
  | _ => stO fr dst (actOp P fr s op)
noncomputable def stepOp (P : Program) (G : Glob) (K : CallF) (dst : Option Tmp) (op : Op) (i : Nat) (fr : Fr) (s : St) : Option (Fr × St) :=
  match clsOf op with
  | .pure => stV fr dst s (pureOp P fr op)
  | .read => stV fr dst s (readOp P G fr s.h op)
  | .alloc => stB fr dst s (Ai.keyOf fr i) (newBlk P fr s.h (Ai.keyOf fr i) op)
  | .heavy => stHeavy P K dst i fr s op

theorem stV_eq {fr fr' : Fr} {dst : Option Tmp} {s s' : St} {v : Option AV} (h : stV fr dst s v = some (fr', s')) (k : Fr → St → Res) : putV fr dst s k v = k fr' s' := by
  unfold stV at h
  split at h
  · split at h
    · rename_i v fr1 hp; cases h; simp only [putV, putK, hp]
    · cases h
  · cases h
theorem stB_eq {fr fr' : Fr} {dst : Option Tmp} {s s' : St} {key : Nat} {v : Option (AV × AB)} (h : stB fr dst s key v = some (fr', s')) (k : Fr → St → Res) : putB fr dst s key k v = k fr' s' := by
  unfold stB at h
  split at h
  · split at h
    · rename_i v b fr1 hp; cases h; simp only [putB, putK, hp]
    · cases h
  · cases h
theorem stO_eq {fr fr' : Fr} {dst : Option Tmp} {s' : St} {v : Outs} (h : stO fr dst v = some (fr', s')) (k : Fr → St → Res) : putO fr dst k v = k fr' s' := by
  unfold stO at h
  split at h
  · split at h
    · rename_i v s fr1 hp; cases h; rw [putO_one, hp]; rfl
    · cases h
  · cases h
theorem step_one {dst : Option Tmp} {op : Op} {i : Nat} {fr fr' : Fr} {s s' : St} (h : stepOp P G K dst op i fr s = some (fr', s')) (k : Fr → St → Res) : oneOp P G K dst op i fr s k = k fr' s' := by
  unfold stepOp at h
  unfold oneOp
  split at h
  · rename_i hc; rw [hc]; exact stV_eq h k
  · rename_i hc; rw [hc]; exact stV_eq h k
  · rename_i hc; rw [hc]; exact stB_eq h k
  · rename_i hc
    rw [hc]
    unfold stHeavy at h
    simp only
    split at h
    · cases h
    · rename_i c
      split at h
      · cases h
      · rename_i hcal
        have : oneHeavy P K dst i fr s (.call c) k = putO fr dst k (heavyCall P K fr (Ai.keyOf fr i) s c) := by
          simp only [oneHeavy, oneCall]
        rw [this]
        exact stO_eq h k
    · rename_i h1 h2
      have : oneHeavy P K dst i fr s op k = putO fr dst k (actOp P fr s op) := by
        cases op <;> first | rfl | exact absurd rfl (h1 _) | exact absurd rfl (h2 _)
      rw [this]
      exact stO_eq h k

section
variable {ops : Array Oper} {i : Nat} {fr fr' : Fr} {s s' : St} {dst : Option Tmp} {op : Op} {ty : TypeId} {pos : String} {after : Array Edge} {rest : List Oper} {g : Nat × Bool}
theorem r_step (h : stepOp P G K dst op i fr s = some (fr', s')) (hk : WR (textOps P G K ops rest (i + 1) fr' s') Q) : WR (textOps P G K ops (⟨dst, op, ty, pos, after, none⟩ :: rest) i fr s) Q := by
  rw [textOps_plain, step_one h]; exact hk
theorem r_stepT (hg : wantedA fr ops ⟨dst, op, ty, pos, after, some g⟩ = true) (h : stepOp P G K dst op i fr s = some (fr', s')) (hk : WR (textOps P G K ops rest (i + 1) fr' s') Q) : WR (textOps P G K ops (⟨dst, op, ty, pos, after, some g⟩ :: rest) i fr s) Q := by
  rw [textOps_guard, hg, bifR_t, step_one h]; exact hk
theorem r_stepF (hg : wantedA fr ops ⟨dst, op, ty, pos, after, some g⟩ = false) (h : fr.put dst .undef = some fr') (hk : WR (textOps P G K ops rest (i + 1) fr' s) Q) : WR (textOps P G K ops (⟨dst, op, ty, pos, after, some g⟩ :: rest) i fr s) Q := by
  rw [textOps_guard, hg, bifR_f, h]; exact hk
/-- a guard that is not known -/
theorem r_stepB {b : Bool} (hg : wantedA fr ops ⟨dst, op, ty, pos, after, some g⟩ = b) (hT : b = true → WR (textOps P G K ops (⟨dst, op, ty, pos, after, none⟩ :: rest) i fr s) Q) (hF : b = false → ∃ fr', fr.put dst .undef = some fr' ∧ WR (textOps P G K ops rest (i + 1) fr' s) Q) : WR (textOps P G K ops (⟨dst, op, ty, pos, after, some g⟩ :: rest) i fr s) Q := by
  rw [textOps_guard, hg]
  cases b with
  | true => rw [bifR_t, ← textOps_plain (after := after) (pos := pos) (ty := ty)]; exact hT rfl
  | false => obtain ⟨fr', h, hk⟩ := hF rfl; rw [bifR_f, h]; exact hk
end
theorem r_end {ops : Array Oper} {i F lc lc' n : Nat} {t : T AV} {df : List (AV × List AV)} {rc : Rc} {s : St} (hl : lc + i = lc') (h : Q .normal ⟨F, lc', n, t, df, rc⟩ s) : WR (textOps P G K ops [] i ⟨F, lc, n, t, df, rc⟩ s) Q := by
  subst hl; rw [textOps_nil, wr_one, bump_mk]; exact h
theorem body_go {fn : Func} {c : Code} {args : List AV} {h : Heap} {F : Nat} {rc : Rc} {n : Nat} {t : T AV} (hb : fn.body = some c) (hn : max fn.ntmps args.length = n) (ht : T.e.setList 0 args = t) (hk : WR (code P G K m c ⟨F, 0, n, t, [], rc⟩ ⟨h, F + 1⟩) Q) :
    WR (body P G K m fn args ⟨h, F⟩ rc) Q := by
  subst ht; rw [body_mk hb args h F rc n hn]; exact hk
theorem r_reg {id : Nat} {ops : Array Oper} {l : List Oper} {F lc n : Nat} {t : T AV} {df : List (AV × List AV)} {rc : Rc} {s : St} (hl : ops.toList = l) (hk : lc + l.length ≤ 1267650600228229401496703205375)
    (h : WR (textOps P G K ops l 0 ⟨F, lc, n, t, df, rc⟩ s) Q) : WR (code P G K m (.region id ops false) ⟨F, lc, n, t, df, rc⟩ s) Q := by
  subst hl; rw [wr_region_eq]; exact ⟨hk, h⟩
theorem stV_mk (fr : Fr) (dst : Option Tmp) (s : St) (v : AV) : stV fr dst s (some v) = match fr.put dst v with | some fr' => some (fr', s) | none => none := rfl
theorem stB_mk (fr : Fr) (dst : Option Tmp) (s : St) (key : Nat) (v : AV) (b : AB) : stB fr dst s key (some (v, b)) = match fr.put dst v with | some fr' => some (fr', s.upd key b) | none => none := rfl
theorem stO_mk (fr : Fr) (dst : Option Tmp) (s : St) (v : AV) : stO fr dst (some [.val v s]) = match fr.put dst v with | some fr' => some (fr', s) | none => none := rfl
end Go.Ai

