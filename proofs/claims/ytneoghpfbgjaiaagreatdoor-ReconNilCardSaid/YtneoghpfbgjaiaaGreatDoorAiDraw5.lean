/- A part of an evaluator over an abstract heap and of the proof that it is sound for the model. CONDITIONS: those that each theorem names. -/
import Derived.Test.YtneoghpfbgjaiaaGreatDoorAiDraw4
namespace Go.Ai
open Go
variable {P : Program} {G : Glob} {base : Nat}

theorem addP_congr {p q : Nat → Bool} : ∀ {m : Made} {h : Heap}, (∀ j k blk, (j, k, blk) ∈ m → p j = q j) → addP p h m = addP q h m
  | [], h, _ => rfl
  | (j, k, blk) :: r, h, hc => by
    have e := hc j k blk List.mem_cons_self
    have ih : ∀ h', addP p h' r = addP q h' r := fun h' => addP_congr fun j' k' b' hm => hc j' k' b' (List.mem_cons_of_mem _ hm)
    simp only [addP, e, ih]
theorem lookM_congr {p q : Nat → Bool} {i : Nat} : ∀ {m : Made}, (∀ j blk, (j, i, blk) ∈ m → p j = q j) → lookM p i m = lookM q i m
  | [], _ => rfl
  | (j, k, blk) :: r, hc => by
    have ih : lookM p i r = lookM q i r := lookM_congr fun j' b' hm => hc j' b' (List.mem_cons_of_mem _ hm)
    simp only [lookM, ih]
    by_cases e : i = k
    · subst e
      have := hc j blk List.mem_cons_self
      simp only [true_and, this]
    · simp [e]

section
variable {ops : Array Oper} {bs : List Nat} {fno : Nat} {rc0 : Rc} {ρ0 : Map} {s0 : St} {w0 : World} {rest : List DE} {done hv : Nat} {fr : Fr} {s : St} {z : Seen} {L : Nat → Bool} {frL : Fr} {ρ : Map} {a : Act} {w : World}

def plus (L : Nat → Bool) (j : Nat) : Nat → Bool := fun k => L k || decide (k = j)
theorem plus_iff {L : Nat → Bool} {j k : Nat} : plus L j k = true ↔ (L k = true ∨ k = j) := by
  simp only [plus, Bool.or_eq_true, decide_eq_true_eq]

theorem Inv.key (I : Inv P G base ops bs fno rc0 ρ0 s0 w0 rest done hv fr s z L frL ρ a w) {j : Nat} (hj : j < ops.size) (hL : L j = false) : ρ (keyOf fr j) = none ∧ keyOf fr j < s.fc * KK ∧ Own fno (keyOf fr j) := by
  have e := key_eq fr j
  have h1 : (fr.fno + 1) * KK ≤ s.fc * KK := Nat.mul_le_mul_right _ I.fn
  have h2 := succ_KK fr.fno
  have hk := I.klt
  have hf := I.fno
  subst hf
  have hfr := I.fresh (keyOf fr j)
  generalize hkk : keyOf fr j = k at e hfr ⊢
  refine ⟨?_, by omega, ⟨by omega, by omega⟩⟩
  cases hρ : ρ k with
  | none => rfl
  | some x =>
    obtain ⟨i, h3, h4⟩ := hfr (by omega) (by omega) (by rw [hρ]; simp)
    have := key_inj (hkk.trans h4)
    subst this
    rw [hL] at h3; cases h3

/-- the run takes a step that the evaluation has taken -/
theorem Inv.exec (I : Inv P G base ops bs fno rc0 ρ0 s0 w0 rest done hv fr s z L frL ρ a w) {j : Nat} {o : Oper} (ho : ops[j]? = some o) (hdj : done.testBit j = true) (hLj : L j = false) (hed : ∀ e ∈ o.after.toList, Region.binds .any e = true → L e.on = true)
    {v : AV} {u : Value} {frL' : Fr} {ρ' : Map} {w' : World} (hp : frL.put o.dst v = some frL') (hdst : Dst fr o v) (ru : RV ρ' v u)
    (hadv : Adv base (fun i => i = keyOf fr j) ρ ⟨addP L s.h z.made, s.fc⟩ w ρ' ⟨addP (plus L j) s.h z.made, s.fc⟩ w') :
    Inv P G base ops bs fno rc0 ρ0 s0 w0 rest done hv fr s z (plus L j) frL' ρ' (a.put o.dst u) w' := by
  have hj : j < ops.size := (Array.getElem?_eq_some_iff.1 ho).1
  obtain ⟨_, hkey, hown⟩ := I.key hj hLj
  obtain ⟨⟨f1, f2, f3, f4, f5⟩, _, fget⟩ := put_some' hp
  obtain ⟨e1, e2, e3, e4, e5⟩ := I.fe
  refine ⟨I.ent, I.ok, ?_, I.dl, I.db, ?_, ?_, ⟨f1.trans e1, f2.trans e2, f3.trans e3, f4.trans e4, f5.trans e5⟩, ((I.rf.mono hadv.st.mono).put hp ru).1, ?_, ?_, I.mad, I.rm.adv hadv, ?_, ?_, I.fn, I.fno, ?_, I.klt, I.nrc⟩
  · intro i oi hi hoi e he hb
    refine plus_iff.2 ?_
    rcases plus_iff.1 hi with h | h
    · exact .inl (I.cl i oi h hoi e he hb)
    · subst h; rw [ho] at hoi; cases hoi; exact .inl (hed e he hb)
  · intro i hi
    rcases plus_iff.1 hi with h | h
    · exact I.ld i h
    · rw [h]; exact hdj
  · intro i oi h1 h2 h3; exact plus_iff.2 (.inl (I.hl i oi h1 h2 h3))
  · intro t ht
    rw [fget t]
    split
    · rename_i e; exact (hdst t e).symm
    · rename_i e
      refine I.ag t fun i oi hoi hd hdi => ?_
      rcases plus_iff.1 (ht i oi hoi hd hdi) with h | h
      · exact h
      · subst h; rw [ho] at hoi; cases hoi; exact absurd hd e
  · intro i oi bi h1 h2 h3 h4
    have : L i = false := by
      cases h : L i with
      | false => rfl
      | true => rw [plus_iff.2 (.inl h)] at h2; cases h2
    exact I.pend i oi bi h1 this h3 h4
  · exact I.ad.trans (hadv.mono fun i _ e => by rw [e]; exact hown)
  · intro k h1 h2 h3
    by_cases e : k = keyOf fr j
    · exact ⟨j, plus_iff.2 (.inr rfl), e⟩
    · have hlt : k < s.fc * KK := Nat.lt_of_lt_of_le h2 (Nat.mul_le_mul_right _ I.fn)
      rw [hadv.keep k hlt e] at h3
      obtain ⟨i, h4, h5⟩ := I.fresh k h1 h2 h3
      exact ⟨i, plus_iff.2 (.inl h4), h5⟩
  · rw [put_defers]; exact I.df.mono hadv.st.mono

/-- A STEP OF THE RUN THAT THE EVALUATION HAS TAKEN. -/
theorem Inv.pending (I : Inv P G base ops bs fno rc0 ρ0 s0 w0 rest done hv fr s z L frL ρ a w) (hN : NamesOk ops bs) (hB : Bef ops bs) {j b : Nat} {o : Oper} (ho : ops[j]? = some o) (hb : bs[j]? = some b) (hdj : done.testBit j = true) (hLj : L j = false)
    (hed : ∀ e ∈ o.after.toList, Region.binds .any e = true → L e.on = true) {K : Act → World → Prop} {Q : Exit → Act → World → Prop}
    (hK : ∀ frL' ρ' a' w', Inv P G base ops bs fno rc0 ρ0 s0 w0 rest done hv fr s z (plus L j) frL' ρ' a' w' → K a' w') : wpOp P ops Q j K a w := by
  have hbL := hB.sub I.cl j b o ho hb hed
  obtain ⟨hev, hw⟩ := I.agree hN hB ho hb hbL
  obtain ⟨hd, hcase⟩ := I.pend j o b hdj hLj ho hb
  have hj : j < ops.size := (Array.getElem?_eq_some_iff.1 ho).1
  obtain ⟨hfresh, hkey, hown⟩ := I.key hj hLj
  have hputL : ∀ v, ∃ frL', frL.put o.dst v = some frL' := fun v => put_ok frL o.dst v (fun t ht => by rw [I.fe.2.2.1]; exact hd t ht)
  have same : NoMade z j → addP (plus L j) s.h z.made = addP L s.h z.made := fun hn => addP_congr fun i k blk hm => by
    have : i ≠ j := fun e => by subst e; exact hn k blk hm
    simp [plus, this]
  have refl : NoMade z j → Adv base (fun i => i = keyOf fr j) ρ ⟨addP L s.h z.made, s.fc⟩ w ρ ⟨addP (plus L j) s.h z.made, s.fc⟩ w := fun hn => by
    rw [same hn]; exact Adv.refl I.rm.rh I.rm.hi
  unfold wpOp
  simp only [ho]
  rw [wantedA_sound I.rf ops o, hw]
  rcases hcase with ⟨n1, h1, h2⟩ | ⟨h1, hcase⟩
  · rw [h1]
    simp only [Bool.false_eq_true, if_false]
    obtain ⟨frL', hp⟩ := hputL .undef
    exact hK _ _ _ _ (I.exec ho hdj hLj hed hp h2 (rv_undef _) (refl n1))
  · rw [h1]
    simp only [if_true]
    left
    unfold Oper.wp
    rcases hcase with ⟨n1, c, v, h3, h4⟩ | ⟨n1, c, v, h3, h4, h5⟩ | ⟨c, v, blk, h3, h4, h5, h6⟩
    · obtain ⟨u, hu, ru⟩ := pure_sound I.rf ((pure_cong hev).trans h3)
      obtain ⟨frL', hp⟩ := hputL v
      rw [hu w, Oper.upon_value]
      exact hK _ _ _ _ (I.exec ho hdj hLj hed hp h4 ru (refl n1))
    · have hsub : RH ρ base (hget (addP (fun j => b.testBit j) s.h z.made)) w := I.rm.rh.sub fun i ab hg _ => I.mad.sub hbL hg
      obtain ⟨u, hu, ru⟩ := read_sound hsub I.rm.rg I.rf ((read_cong hev).trans h4)
      obtain ⟨frL', hp⟩ := hputL v
      rw [hu, Oper.upon_value]
      exact hK _ _ _ _ (I.exec ho hdj hLj hed hp h5 ru (refl n1))
    · obtain ⟨ob, k, u, h7, h8, h9⟩ := alloc_sound (key := keyOf fr j) I.rf hfresh ((alloc_cong hev).trans h4) w
      obtain ⟨frL', hp⟩ := hputL v
      rw [h7, Oper.upon_value]
      have hg : hget (addP (plus L j) s.h z.made) = hget (hset (addP L s.h z.made) (keyOf fr j) blk) := by
        rw [hget_upd]
        funext i
        rw [addP_get, addP_get]
        by_cases e : i = keyOf fr j
        · subst e
          rw [if_pos rfl, h6, Option.none_or]
          exact I.mad.look h3 (plus_iff.2 (.inr rfl))
        · rw [if_neg e]
          congr 1
          refine lookM_congr fun i' b' hm => ?_
          have : i' ≠ j := fun e' => by subst e'; exact e (I.mad.1 _ _ _ hm).1
          simp [plus, this]
      have hst := Stp.new (key := keyOf fr j) (k := k) (o := 0) I.rm.rh hfresh I.rm.bs h9
      refine hK _ _ _ _ (I.exec ho hdj hLj hed hp h5 h8 ⟨?_, Nat.le_refl _, fun i _ hn => by simp [ext, hn], fun i hi => ?_⟩)
      · show Stp ρ base _ w _ (hget (addP (plus L j) s.h z.made)) _
        rw [hg]; exact hst
      · have hi' : s.fc * KK ≤ i := hi
        have hne : i ≠ keyOf fr j := by omega
        simp only [ext, if_neg hne]; exact I.rm.hi i hi
end
end Go.Ai
