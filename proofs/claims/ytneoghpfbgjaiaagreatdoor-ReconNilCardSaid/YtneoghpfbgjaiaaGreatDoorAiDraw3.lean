/- A part of an evaluator over an abstract heap and of the proof that it is sound for the model. CONDITIONS: those that each theorem names. -/
import Derived.Test.YtneoghpfbgjaiaaGreatDoorAiDraw2
namespace Go.Ai
open Go
variable {P : Program} {G : Glob} {base : Nat}

def Dst (fr : Fr) (o : Oper) (v : AV) : Prop := ∀ d, o.dst = some d → fr.t.get d = some v

def NoMade (z : Seen) (i : Nat) : Prop := ∀ k blk, (i, k, blk) ∉ z.made
/-- an operation that the evaluation has seen, and the run has not -/
def Pend (P : Program) (G : Glob) (ops : Array Oper) (fr : Fr) (s : St) (z : Seen) (i b : Nat) (o : Oper) : Prop :=
  (∀ d, o.dst = some d → d < fr.n) ∧
  ((NoMade z i ∧ wantedA fr ops o = false ∧ Dst fr o .undef) ∨
   (wantedA fr ops o = true ∧
     ((NoMade z i ∧ clsOf o.op = .pure ∧ ∃ v, pureOp P fr o.op = some v ∧ Dst fr o v) ∨
      (NoMade z i ∧ clsOf o.op = .read ∧ ∃ v, (i, b, o.op, v) ∈ z.reads ∧ readOp P G fr (addP (fun j => b.testBit j) s.h z.made) o.op = some v ∧ Dst fr o v) ∨
      (clsOf o.op = .alloc ∧ ∃ v blk, (i, keyOf fr i, blk) ∈ z.made ∧ allocOp P fr (keyOf fr i) o.op = some (v, blk) ∧ Dst fr o v ∧ hget s.h (keyOf fr i) = none))))

structure Inv (P : Program) (G : Glob) (base : Nat) (ops : Array Oper) (bs : List Nat) (fno : Nat) (rc0 : Rc) (ρ0 : Map) (s0 : St) (w0 : World)
    (rest : List DE) (done hv : Nat) (fr : Fr) (s : St) (z : Seen) (L : Nat → Bool) (frL : Fr) (ρ : Map) (a : Act) (w : World) : Prop where
  ent : ∀ x ∈ rest, ops[x.1]? = some x.2.2.2 ∧ bs[x.1]? = some x.2.1
  ok : orderOk (Nat.sub (2 ^ ops.toList.length) 1) rest done hv = true
  cl : Closed ops (fun i => L i = true)
  dl : ∀ i, done.testBit i = true → i < ops.size
  db : ∀ i o b, done.testBit i = true → ops[i]? = some o → bs[i]? = some b → ∀ j, b.testBit j = true → done.testBit j = true
  ld : ∀ i, L i = true → done.testBit i = true
  hl : ∀ i o, done.testBit i = true → ops[i]? = some o → isBar o = true → L i = true
  fe : frL.fno = fr.fno ∧ frL.lc = fr.lc ∧ frL.n = fr.n ∧ frL.df = fr.df ∧ frL.rc = fr.rc
  rf : RF ρ frL a
  ag : ∀ t, (∀ i o, ops[i]? = some o → o.dst = some t → done.testBit i = true → L i = true) → frL.t.get t = fr.t.get t
  pend : ∀ i o b, done.testBit i = true → L i = false → ops[i]? = some o → bs[i]? = some b → Pend P G ops fr s z i b o
  mad : MadeOK fr done z.made
  rm : RM G base ρ ⟨addP L s.h z.made, s.fc⟩ w
  ad : Adv base (Own fno) ρ0 s0 w0 ρ ⟨addP L s.h z.made, s.fc⟩ w
  fresh : ∀ k, fr.fno * KK + fr.lc ≤ k → k < (fr.fno + 1) * KK → ρ k ≠ none → ∃ i, L i = true ∧ k = keyOf fr i
  fn : fr.fno < s.fc
  fno : fr.fno = fno
  df : RD ρ fr.df a.defers
  klt : fr.lc + ops.size < KK
  nrc : fr.rc = rc0

section
variable {ops : Array Oper} {bs : List Nat} {fno : Nat} {rc0 : Rc} {ρ0 : Map} {s0 : St} {w0 : World} {rest : List DE} {done hv : Nat} {fr : Fr} {s : St} {z : Seen} {L : Nat → Bool} {frL : Fr} {ρ : Map} {a : Act} {w : World}

/-- the names of an operation are as the evaluation has them -/
theorem Inv.agree (I : Inv P G base ops bs fno rc0 ρ0 s0 w0 rest done hv fr s z L frL ρ a w) (hN : NamesOk ops bs) (hB : Bef ops bs) {j b : Nat} {o : Oper} (ho : ops[j]? = some o) (hb : bs[j]? = some b) (hbL : ∀ k, b.testBit k = true → L k = true) :
    (∀ x ∈ o.op.operands, frL.ev x = fr.ev x) ∧ wantedA frL ops o = wantedA fr ops o := by
  refine names_agree fun t ht => I.ag t fun i oi hoi hdi hdone => ?_
  have hi : i < bs.length := by rw [hB.len]; exact (Array.getElem?_eq_some_iff.1 hoi).1
  rcases hN.names j b o ho hb i bs[i] oi hoi (by simp [hi]) (hasTmp_iff.2 ⟨t, hdi, ht⟩) with h | ⟨h, _⟩
  · exact hbL i h
  · exact I.hl i oi hdone hoi h

theorem orderOk_hv {full : Nat} : ∀ {l : List DE} {done hv : Nat}, orderOk full l done hv = true → ∀ x ∈ l, ∀ k, hv.testBit k = true → x.2.1.testBit k = true
  | [], _, _, _, x, hx, _, _ => by cases hx
  | (i, b, st, o) :: r, done, hv, h, x, hx, k, hk => by
    simp only [orderOk] at h
    split at h
    · rename_i e1 e2 e3 e4
      rcases List.mem_cons.1 hx with e | e
      · subst e; exact covers_spec e3 hk
      · exact orderOk_hv h x e k (by rw [lor_spec, hk]; rfl)
    · rename_i e1 e2 e3 e4
      rcases List.mem_cons.1 hx with e | e
      · subst e; exact covers_spec e3 hk
      · exact orderOk_hv h x e k hk
    · cases h
theorem orderOk_mem {n : Nat} : ∀ {l : List DE} {done hv : Nat}, orderOk (Nat.sub (2 ^ n) 1) l done hv = true → ∀ j, j < n → done.testBit j = true ∨ ∃ x ∈ l, x.1 = j
  | [], done, _, h, j, hj => by
    simp only [orderOk] at h
    have := Nat.eq_of_beq_eq_true h
    subst this
    left
    show (2 ^ n - 1).testBit j = true
    rw [Nat.testBit_two_pow_sub_one]; simpa using hj
  | (i, b, st, o) :: r, done, hv, h, j, hj => by
    simp only [orderOk] at h
    have fin : ∀ hv', orderOk (Nat.sub (2 ^ n) 1) r (Nat.lor done (2 ^ i)) hv' = true → done.testBit j = true ∨ ∃ x ∈ (i, b, st, o) :: r, x.1 = j := by
      intro hv' h'
      rcases orderOk_mem h' j hj with e | ⟨x, hx, e⟩
      · rw [lor_spec] at e
        simp only [Bool.or_eq_true, decide_eq_true_eq] at e
        rcases e with e | e
        · exact .inl e
        · exact .inr ⟨_, List.mem_cons_self, e⟩
      · exact .inr ⟨x, List.mem_cons_of_mem _ hx, e⟩
    split at h
    · exact fin _ h
    · exact fin _ h
    · cases h
theorem orderOk_head {full i b st : Nat} {o : Oper} {r : List DE} {done hv : Nat} (h : orderOk full ((i, b, st, o) :: r) done hv = true) :
    done.testBit i = false ∧ (∀ j, b.testBit j = true → done.testBit j = true) ∧ ∃ hv', orderOk full r (Nat.lor done (2 ^ i)) hv' = true ∧ (isBar o = true → hv'.testBit i = true) := by
  simp only [orderOk] at h
  split at h
  · rename_i e1 e2 e3 e4
    exact ⟨e1, fun j => covers_spec e2, _, h, fun _ => by rw [lor_spec]; simp⟩
  · rename_i e1 e2 e3 e4
    exact ⟨e1, fun j => covers_spec e2, _, h, fun hb => by rw [e4] at hb; cases hb⟩
  · cases h

theorem Dst.put {fr fr' : Fr} {o oi : Oper} {v u : AV} (h : Dst fr o v) (hp : fr.put oi.dst u = some fr') (hne : sameDst oi.dst o.dst = false) : Dst fr' o v := by
  intro d hd
  have := (put_some' hp).2.2 d
  rw [this]
  split
  · rename_i e
    rw [e, hd] at hne
    simp [sameDst] at hne
  · exact h d hd

theorem names_put {fr fr' : Fr} {ops : Array Oper} {o oi : Oper} {u : AV} (hp : fr.put oi.dst u = some fr') (hne : hasTmp oi.dst (namesOf ops.toList o) = false) :
    (∀ x ∈ o.op.operands, fr.ev x = fr'.ev x) ∧ wantedA fr ops o = wantedA fr' ops o := by
  refine names_agree fun t ht => ?_
  rw [(put_some' hp).2.2 t]
  split
  · rename_i e
    rw [hasTmp_iff.2 ⟨t, e, ht⟩] at hne; cases hne
  · rfl

/-- what was pending is pending still -/
theorem Pend.step {fr fr' : Fr} {s s' : St} {z z' : Seen} {i b : Nat} {o oi : Oper} {u : AV} (h : Pend P G ops fr s z i b o) (hp : fr.put oi.dst u = some fr') (hn : hasTmp oi.dst (namesOf ops.toList o) = false) (hd : sameDst oi.dst o.dst = false)
    (hr : ∀ v, (i, b, o.op, v) ∈ z.reads → readOp P G fr (addP (fun j => b.testBit j) s.h z.made) o.op = some v → (i, b, o.op, v) ∈ z'.reads ∧ readOp P G fr (addP (fun j => b.testBit j) s'.h z'.made) o.op = some v)
    (hm : ∀ x ∈ z.made, x ∈ z'.made) (hm' : ∀ k blk, (i, k, blk) ∈ z'.made → (i, k, blk) ∈ z.made) (hk : ∀ blk, (i, keyOf fr i, blk) ∈ z.made → hget s.h (keyOf fr i) = none → hget s'.h (keyOf fr i) = none) : Pend P G ops fr' s' z' i b o := by
  obtain ⟨⟨f1, f2, f3, _⟩, _, _⟩ := put_some' hp
  obtain ⟨hev, hw⟩ := names_put (ops := ops) hp hn
  have hkey : keyOf fr' i = keyOf fr i := by rw [key_eq, key_eq, f1, f2]
  obtain ⟨h0, h1⟩ := h
  refine ⟨fun d hd => by rw [f3]; exact h0 d hd, ?_⟩
  rw [← hw, hkey]
  have hno : NoMade z i → NoMade z' i := fun h k blk hm => h k blk (hm' k blk hm)
  rcases h1 with ⟨n1, h1, h2⟩ | ⟨h1, h2⟩
  · exact .inl ⟨hno n1, h1, h2.put hp hd⟩
  · refine .inr ⟨h1, ?_⟩
    rcases h2 with ⟨n1, c, v, h3, h4⟩ | ⟨n1, c, v, h3, h4, h5⟩ | ⟨c, v, blk, h3, h4, h5, h6⟩
    · exact .inl ⟨hno n1, c, v, by rw [← pure_cong hev]; exact h3, h4.put hp hd⟩
    · obtain ⟨q1, q2⟩ := hr v h3 h4
      exact .inr (.inl ⟨hno n1, c, v, q1, by rw [← read_cong hev]; exact q2, h5.put hp hd⟩)
    · exact .inr (.inr ⟨c, v, blk, hm _ h3, by rw [← alloc_cong hev]; exact h4, h5.put hp hd, hk blk h3 h6⟩)
end
end Go.Ai
