/- A part of an evaluator over an abstract heap and of the proof that it is sound for the model. CONDITIONS: those that each theorem names. -/
import Derived.Test.YtneoghpfbgjaiaaGreatDoorAiDraw5
namespace Go.Ai
open Go
variable {P : Program} {G : Glob} {base : Nat}

theorem drawOuts_val {f : AV → St → Res} {fr : Fr} {bh : Bool} : ∀ {l : List Out} {res : List (Ex × Fr × St)} {v : AV} {s : St}, drawOuts f fr bh l = some res → Out.val v s ∈ l → ∃ o', f v s = some o' ∧ ∀ x ∈ o', x ∈ res
  | [], _, _, _, _, h => by cases h
  | .val v0 s0 :: rest, res, v, s, h, hm => by
    simp only [drawOuts] at h
    split at h
    · cases h
    · rename_i a ha
      split at h
      · cases h
        rcases List.mem_cons.1 hm with e | e
        · cases e; exact ⟨_, ha, fun _ h => h⟩
        · cases e
      · split at h
        · cases h
        · rename_i b hb
          cases h
          rcases List.mem_cons.1 hm with e | e
          · cases e; exact ⟨_, ha, fun x h => List.mem_append_left _ h⟩
          · obtain ⟨o', h1, h2⟩ := drawOuts_val hb e
            exact ⟨o', h1, fun x hx => List.mem_append_right _ (h2 x hx)⟩
  | .pan v0 s0 :: rest, res, v, s, h, hm => by
    simp only [drawOuts] at h
    split at h
    · rename_i b _ hb
      cases h
      rcases List.mem_cons.1 hm with e | e
      · cases e
      · obtain ⟨o', h1, h2⟩ := drawOuts_val hb e
        exact ⟨o', h1, fun x hx => List.mem_cons_of_mem _ (h2 x hx)⟩
    · cases h
theorem drawOuts_pan {f : AV → St → Res} {fr : Fr} {bh : Bool} : ∀ {l : List Out} {res : List (Ex × Fr × St)} {v : AV} {s : St}, drawOuts f fr bh l = some res → Out.pan v s ∈ l → bh = true ∧ (Ex.pan v, fr, s) ∈ res
  | [], _, _, _, _, h => by cases h
  | .val v0 s0 :: rest, res, v, s, h, hm => by
    simp only [drawOuts] at h
    split at h
    · cases h
    · rename_i a ha
      split at h
      · cases h
        rcases List.mem_cons.1 hm with e | e
        · cases e
        · cases e
      · split at h
        · cases h
        · rename_i b hb
          cases h
          rcases List.mem_cons.1 hm with e | e
          · cases e
          · obtain ⟨h1, h2⟩ := drawOuts_pan hb e
            exact ⟨h1, List.mem_append_right _ h2⟩
  | .pan v0 s0 :: rest, res, v, s, h, hm => by
    simp only [drawOuts] at h
    split at h
    · rename_i b _ hb
      cases h
      rcases List.mem_cons.1 hm with e | e
      · cases e; exact ⟨rfl, List.mem_cons_self⟩
      · exact ⟨rfl, List.mem_cons_of_mem _ (drawOuts_pan hb e).2⟩
    · cases h

theorem readsOk_spec {fr : Fr} {h : Heap} {m : Made} : ∀ {l : List (Nat × Op × AV)}, readsOk P G fr h m l = true → ∀ b op v, (b, op, v) ∈ l → readOp P G fr (addP (fun j => b.testBit j) h m) op = some v
  | [], _, b, op, v, hm => by cases hm
  | (b0, op0, v0) :: rest, hr, b, op, v, hm => by
    simp only [readsOk] at hr
    split at hr
    · rename_i u hu
      split at hr
      · rename_i he
        rcases List.mem_cons.1 hm with e | e
        · cases e; rw [← addMade_eq, hu, avEq_eq he]
        · exact readsOk_spec hr b op v e
      · cases hr
    · cases hr
theorem readsLeft_mem {bx : Nat} : ∀ {l : List (Nat × Nat × Op × AV)} {r b : Nat} {op : Op} {v : AV}, (r, b, op, v) ∈ l → bx.testBit r = false → (b, op, v) ∈ readsLeft bx l
  | [], _, _, _, _, h, _ => by cases h
  | (r0, b0, op0, v0) :: rest, r, b, op, v, h, hb => by
    simp only [readsLeft]
    rcases List.mem_cons.1 h with e | e
    · cases e; rw [hb]; exact List.mem_cons_self
    · have := readsLeft_mem e hb
      split
      · exact this
      · exact List.mem_cons_of_mem _ this
theorem asideOk_spec {h1 h' : Heap} : ∀ {m : Made}, asideOk h1 h' m = true → ∀ j k blk, (j, k, blk) ∈ m → (hget h1 k = none ↔ hget h' k = none)
  | [], _, j, k, blk, hm => by cases hm
  | (j0, k0, b0) :: r, h, j, k, blk, hm => by
    simp only [asideOk] at h
    split at h
    · rename_i e1 e2
      rcases List.mem_cons.1 hm with e | e
      · cases e; simp [e1, e2]
      · exact asideOk_spec h j k blk e
    · rename_i e1 e2
      rcases List.mem_cons.1 hm with e | e
      · cases e; simp [e1, e2]
      · exact asideOk_spec h j k blk e
    · cases h

section
variable {ops : Array Oper} {bs : List Nat} {fno : Nat} {rc0 : Rc} {ρ0 : Map} {s0 : St} {w0 : World} {rest : List DE} {done hv : Nat} {fr : Fr} {s : St} {z : Seen} {L : Nat → Bool} {frL : Fr} {ρ : Map} {a : Act} {w : World}

/-- evaluation and run take a step together -/
theorem Inv.bar {i b st : Nat} {o : Oper} (I : Inv P G base ops bs fno rc0 ρ0 s0 w0 ((i, b, st, o) :: rest) done hv fr s z L frL ρ a w) (hN : NamesOk ops bs) (hLi : L i = false) (hed : ∀ e ∈ o.after.toList, Region.binds .any e = true → L e.on = true) (hbL : ∀ k, b.testBit k = true → L k = true)
    {v : AV} {u : Value} {fr' frL' : Fr} {s' : St} {ρ' : Map} {w' : World} (hp : fr.put o.dst v = some fr') (hpL : frL.put o.dst v = some frL') (ru : RV ρ' v u)
    (hadv : Adv base (fun k => k = keyOf fr i) ρ ⟨addP L s.h z.made, s.fc⟩ w ρ' ⟨addP (plus L i) s'.h z.made, s'.fc⟩ w')
    (hrd : ∀ j bj oj v, L j = false → (j, bj, oj, v) ∈ z.reads → readOp P G fr (addP (fun k => bj.testBit k) s.h z.made) oj = some v → readOp P G fr (addP (fun k => bj.testBit k) s'.h z.made) oj = some v)
    (hka : ∀ j k blk, L j = false → (j, k, blk) ∈ z.made → hget s.h k = none → hget s'.h k = none) :
    ∃ hv', Inv P G base ops bs fno rc0 ρ0 s0 w0 rest (Nat.lor done (2 ^ i)) hv' fr' s' z (plus L i) frL' ρ' (a.put o.dst u) w' := by
  obtain ⟨hdi, hbd, hv', hok, _⟩ := orderOk_head I.ok
  obtain ⟨ho, hb⟩ := I.ent _ List.mem_cons_self
  simp only at ho hb
  have hin : i < ops.size := (Array.getElem?_eq_some_iff.1 ho).1
  obtain ⟨_, hkey, hown⟩ := I.key hin hLi
  obtain ⟨⟨f1, f2, f3, f4, f5⟩, fd, fget⟩ := put_some' hp
  obtain ⟨⟨g1, g2, g3, g4, g5⟩, _, gget⟩ := put_some' hpL
  obtain ⟨e1, e2, e3, e4, e5⟩ := I.fe
  have hdone : ∀ j, (Nat.lor done (2 ^ i)).testBit j = true ↔ (done.testBit j = true ∨ j = i) := by
    intro j; rw [lor_spec, Bool.or_eq_true, decide_eq_true_eq]
    exact ⟨fun h => h.imp id Eq.symm, fun h => h.imp id Eq.symm⟩
  refine ⟨hv', ⟨fun x hx => I.ent x (List.mem_cons_of_mem _ hx), hok, ?_, ?_, ?_, ?_, ?_, ?_, ((I.rf.mono hadv.st.mono).put hpL ru).1, ?_, ?_, ?_, I.rm.adv hadv, ?_, ?_, ?_, ?_, ?_, ?_, ?_⟩⟩
  · intro k ok hk hook e he hbi
    refine plus_iff.2 ?_
    rcases plus_iff.1 hk with h | h
    · exact .inl (I.cl k ok h hook e he hbi)
    · subst h; rw [ho] at hook; cases hook; exact .inl (hed e he hbi)
  · intro j hj; rcases (hdone j).1 hj with h | h
    · exact I.dl j h
    · rw [h]; exact hin
  · intro j oj bj hj hoj hbj k hk
    refine (hdone k).2 (.inl ?_)
    rcases (hdone j).1 hj with h | h
    · exact I.db j oj bj h hoj hbj k hk
    · subst h; rw [hb] at hbj; cases hbj; exact hbd k hk
  · intro j hj
    rcases plus_iff.1 hj with h | h
    · exact (hdone j).2 (.inl (I.ld j h))
    · exact (hdone j).2 (.inr h)
  · intro j oj hj hoj hbar
    refine plus_iff.2 ?_
    rcases (hdone j).1 hj with h | h
    · exact .inl (I.hl j oj h hoj hbar)
    · exact .inr h
  · exact ⟨by rw [g1, e1, f1], by rw [g2, e2, f2], by rw [g3, e3, f3], by rw [g4, e4, f4], by rw [g5, e5, f5]⟩
  · intro t ht
    rw [fget t, gget t]
    split
    · rfl
    · refine I.ag t fun j oj hoj hd hdj => ?_
      rcases plus_iff.1 (ht j oj hoj hd ((hdone j).2 (.inl hdj))) with h | h
      · exact h
      · subst h; rw [hdi] at hdj; cases hdj
  · intro j oj bj hj hLj hoj hbj
    have hji : j ≠ i := fun e => by rw [plus_iff.2 (.inr e)] at hLj; cases hLj
    have hLj' : L j = false := by
      cases h : L j with
      | false => rfl
      | true => rw [plus_iff.2 (.inl h)] at hLj; cases hLj
    have hdj : done.testBit j = true := ((hdone j).1 hj).resolve_right hji
    have hbji : bj.testBit i = false := by
      cases h : bj.testBit i with
      | false => rfl
      | true => have := I.db j oj bj hdj hoj hbj i h; rw [hdi] at this; cases this
    have hbij : b.testBit j = false := by
      cases h : b.testBit j with
      | false => rfl
      | true => have := hbL j h; rw [hLj'] at this; cases this
    have hkj : keyOf fr j = keyOf fr j := rfl
    refine (I.pend j oj bj hdj hLj' hoj hbj).step hp ?_ ?_ ?_ (fun _ h => h) (fun _ _ h => h) (fun blk hm h => hka j _ blk hLj' hm h)
    · cases h : hasTmp o.dst (namesOf ops.toList oj) with
      | false => rfl
      | true =>
        rcases hN.names j bj oj hoj hbj i b o ho hb h with h1 | ⟨_, h1⟩
        · rw [hbji] at h1; cases h1
        · rw [hbij] at h1; cases h1
    · cases h : sameDst o.dst oj.dst with
      | false => rfl
      | true =>
        rcases Nat.lt_trichotomy i j with hlt | heq | hlt
        · have := (hN.dsts i o ho j bj oj hoj hbj hlt h).1
          rw [hbji] at this; cases this
        · exact absurd heq.symm hji
        · have := (hN.dsts j oj hoj i b o ho hb hlt (by rw [sameDst_symm]; exact h)).1
          rw [hbij] at this; cases this
    · intro v h1 h2
      exact ⟨h1, hrd j bj _ v hLj' h1 h2⟩
  · exact ⟨fun j k blk hm => ⟨by rw [(I.mad.1 j k blk hm).1, key_eq, key_eq, f1, f2], by rw [lor_spec, (I.mad.1 j k blk hm).2]; rfl⟩, I.mad.2⟩
  · exact I.ad.trans (hadv.mono fun k _ e => by rw [e]; exact hown)
  · intro k h1 h2 h3
    rw [f1, f2] at h1; rw [f1] at h2
    by_cases e : k = keyOf fr i
    · exact ⟨i, plus_iff.2 (.inr rfl), by rw [e, key_eq, key_eq, f1, f2]⟩
    · have hlt : k < s.fc * KK := Nat.lt_of_lt_of_le h2 (Nat.mul_le_mul_right _ I.fn)
      rw [hadv.keep k hlt e] at h3
      obtain ⟨j, h4, h5⟩ := I.fresh k h1 h2 h3
      exact ⟨j, plus_iff.2 (.inl h4), by rw [h5, key_eq, key_eq, f1, f2]⟩
  · rw [f1]; exact Nat.lt_of_lt_of_le I.fn hadv.fc
  · rw [f1]; exact I.fno
  · rw [f4, put_defers]; exact I.df.mono hadv.st.mono
  · rw [f2]; exact I.klt
  · rw [f5]; exact I.nrc
end
end Go.Ai
