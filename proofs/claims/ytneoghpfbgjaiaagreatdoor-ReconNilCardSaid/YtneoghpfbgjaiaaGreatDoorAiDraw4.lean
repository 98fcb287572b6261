/- A part of an evaluator over an abstract heap and of the proof that it is sound for the model. CONDITIONS: those that each theorem names. -/
import Derived.Test.YtneoghpfbgjaiaaGreatDoorAiDraw3
namespace Go.Ai
open Go
variable {P : Program} {G : Glob} {base : Nat}
section
variable {ops : Array Oper} {bs : List Nat} {fno : Nat} {rc0 : Rc} {ρ0 : Map} {s0 : St} {w0 : World} {rest : List DE} {done hv : Nat} {fr : Fr} {s : St} {z : Seen} {L : Nat → Bool} {frL : Fr} {ρ : Map} {a : Act} {w : World}

theorem sameDst_symm {d e : Option Tmp} : sameDst d e = sameDst e d := by
  cases d <;> cases e <;> first | rfl | skip
  rename_i x y
  show Nat.beq x y = Nat.beq y x
  cases h : Nat.beq y x with
  | true => rw [Nat.eq_of_beq_eq_true h]; exact Nat.beq_refl _
  | false =>
    cases h' : Nat.beq x y with
    | false => rfl
    | true => rw [Nat.eq_of_beq_eq_true h', Nat.beq_refl] at h; cases h

theorem own_names (hN : NamesOk ops bs) {i b : Nat} {o : Oper} (ho : ops[i]? = some o) (hb : bs[i]? = some b) (hnb : isBar o = false) (hbd : b.testBit i = false) : hasTmp o.dst (namesOf ops.toList o) = false := by
  cases h : hasTmp o.dst (namesOf ops.toList o) with
  | false => rfl
  | true =>
    rcases hN.names i b o ho hb i b o ho hb h with h1 | ⟨h1, _⟩
    · rw [hbd] at h1; cases h1
    · rw [hnb] at h1; cases h1

/-- the evaluation goes ahead of the run -/
theorem Inv.virt {i b st : Nat} {o : Oper} (I : Inv P G base ops bs fno rc0 ρ0 s0 w0 ((i, b, st, o) :: rest) done hv fr s z L frL ρ a w) (hN : NamesOk ops bs) (hnb : isBar o = false) {fr' : Fr} {z' : Seen} {u : AV} (hp : fr.put o.dst u = some fr')
    (hadd : ∀ p : Nat → Bool, p i = false → addP p s.h z'.made = addP p s.h z.made) (hpend : Pend P G ops fr' s z' i b o) (hreads : ∀ x ∈ z.reads, x ∈ z'.reads) (hmade : ∀ x ∈ z.made, x ∈ z'.made) (hmade' : ∀ j k blk, (j, k, blk) ∈ z'.made → j ≠ i → (j, k, blk) ∈ z.made) (hmad : MadeOK fr' (Nat.lor done (2 ^ i)) z'.made) :
    ∃ hv', Inv P G base ops bs fno rc0 ρ0 s0 w0 rest (Nat.lor done (2 ^ i)) hv' fr' s z' L frL ρ a w := by
  obtain ⟨hdi, hbd, hv', hok, _⟩ := orderOk_head I.ok
  obtain ⟨ho, hb⟩ := I.ent _ List.mem_cons_self
  simp only at ho hb
  have hLi : L i = false := by
    cases h : L i with
    | false => rfl
    | true => have := I.ld i h; rw [hdi] at this; cases this
  have hin : i < ops.size := (Array.getElem?_eq_some_iff.1 ho).1
  obtain ⟨⟨f1, f2, f3, f4, f5⟩, _, fget⟩ := put_some' hp
  have hdone : ∀ j, (Nat.lor done (2 ^ i)).testBit j = true ↔ (done.testBit j = true ∨ j = i) := by
    intro j; rw [lor_spec, Bool.or_eq_true, decide_eq_true_eq]
    exact ⟨fun h => h.imp id Eq.symm, fun h => h.imp id Eq.symm⟩
  refine ⟨hv', ⟨fun x hx => I.ent x (List.mem_cons_of_mem _ hx), hok, I.cl, ?_, ?_, ?_, ?_, ?_, I.rf, ?_, ?_, hmad, ?_, ?_, ?_, ?_, ?_, ?_, ?_, ?_⟩⟩
  · intro j hj; rcases (hdone j).1 hj with h | h
    · exact I.dl j h
    · rw [h]; exact hin
  · intro j oj bj hj hoj hbj k hk
    refine (hdone k).2 (.inl ?_)
    rcases (hdone j).1 hj with h | h
    · exact I.db j oj bj h hoj hbj k hk
    · subst h; rw [hb] at hbj; cases hbj; exact hbd k hk
  · intro j hj; exact (hdone j).2 (.inl (I.ld j hj))
  · intro j oj hj hoj hbar
    rcases (hdone j).1 hj with h | h
    · exact I.hl j oj h hoj hbar
    · subst h; rw [ho] at hoj; cases hoj; rw [hnb] at hbar; cases hbar
  · obtain ⟨e1, e2, e3, e4, e5⟩ := I.fe
    exact ⟨by rw [e1, f1], by rw [e2, f2], by rw [e3, f3], by rw [e4, f4], by rw [e5, f5]⟩
  · intro t ht
    have hne : ¬ (o.dst = some t) := fun h => by
      have := ht i o ho h ((hdone i).2 (.inr rfl))
      rw [hLi] at this; cases this
    rw [fget t, if_neg hne]
    exact I.ag t fun j oj hoj hd hdj => ht j oj hoj hd ((hdone j).2 (.inl hdj))
  · intro j oj bj hj hLj hoj hbj
    by_cases hji : j = i
    · subst hji; rw [ho] at hoj; rw [hb] at hbj; cases hoj; cases hbj; exact hpend
    · have hdj : done.testBit j = true := ((hdone j).1 hj).resolve_right hji
      have hbji : bj.testBit i = false := by
        cases h : bj.testBit i with
        | false => rfl
        | true => have := I.db j oj bj hdj hoj hbj i h; rw [hdi] at this; cases this
      refine (I.pend j oj bj hdj hLj hoj hbj).step hp ?_ ?_ ?_ hmade (fun k blk hm => hmade' j k blk hm hji) (fun _ _ h => h)
      · cases h : hasTmp o.dst (namesOf ops.toList oj) with
        | false => rfl
        | true =>
          rcases hN.names j bj oj hoj hbj i b o ho hb h with h1 | ⟨h1, _⟩
          · rw [hbji] at h1; cases h1
          · rw [hnb] at h1; cases h1
      · cases h : sameDst o.dst oj.dst with
        | false => rfl
        | true =>
          rcases Nat.lt_trichotomy i j with hlt | heq | hlt
          · have := (hN.dsts i o ho j bj oj hoj hbj hlt h).1
            rw [hbji] at this; cases this
          · exact absurd heq.symm hji
          · rcases (hN.dsts j oj hoj i b o ho hb hlt (by rw [sameDst_symm]; exact h)).2 with h1 | h1
            · have := I.hl j oj hdj hoj h1
              rw [hLj] at this; cases this
            · rw [hnb] at h1; cases h1
      · intro v h1 h2
        exact ⟨hreads _ h1, by rw [hadd _ hbji]; exact h2⟩
  · rw [hadd L hLi]; exact I.rm
  · rw [hadd L hLi]; exact I.ad
  · intro k h1 h2 h3
    rw [f1, f2] at h1; rw [f1] at h2
    obtain ⟨j, h4, h5⟩ := I.fresh k h1 h2 h3
    exact ⟨j, h4, by rw [h5, key_eq, key_eq, f1, f2]⟩
  · rw [f1]; exact I.fn
  · rw [f1]; exact I.fno
  · rw [f4]; exact I.df
  · rw [f2]; exact I.klt
  · rw [f5]; exact I.nrc

def Stopped : List DE → Prop
  | [] => True
  | (_, _, _, o) :: _ => isBar o = true

theorem notBar {o : Oper} (h : isBar o = false) : clsOf o.op ≠ .heavy := by
  intro hc
  unfold isBar at h
  split at h
  · cases h
  · rw [(clsHeavy_iff o).2 hc] at h; cases h

theorem dst_of_put {fr fr' : Fr} {o : Oper} {v : AV} (hp : fr.put o.dst v = some fr') : Dst fr' o v := by
  intro d hd
  rw [(put_some' hp).2.2 d, if_pos hd]

theorem Inv.advance {call : CallF} {n : Nat} {outs : List (Ex × Fr × St)} (hN : NamesOk ops bs) : ∀ (rest : List DE) (done hv : Nat) (fr : Fr) (z : Seen),
    drawOps P G call ops n rest done fr s z = some outs → Inv P G base ops bs fno rc0 ρ0 s0 w0 rest done hv fr s z L frL ρ a w →
    ∃ rest' done' hv' fr' z', drawOps P G call ops n rest' done' fr' s z' = some outs ∧ Inv P G base ops bs fno rc0 ρ0 s0 w0 rest' done' hv' fr' s z' L frL ρ a w ∧ Stopped rest'
  | [], done, hv, fr, z, h, I => ⟨[], done, hv, fr, z, h, I, trivial⟩
  | (i, b, st, o) :: rest, done, hv, fr, z, h, I => by
    cases hbar : isBar o with
    | true => exact ⟨_, done, hv, fr, z, h, I, hbar⟩
    | false =>
      have hcls := notBar hbar
      obtain ⟨hdi, hbd, _⟩ := orderOk_head I.ok
      obtain ⟨ho, hb⟩ := I.ent _ List.mem_cons_self
      simp only at ho hb
      have hbi : b.testBit i = false := by
        cases h : b.testBit i with
        | false => rfl
        | true => have := hbd i h; rw [hdi] at this; cases this
      have hown := own_names hN ho hb hbar hbi
      have hnm : NoMade z i := fun k blk hm => by have := (I.mad.1 i k blk hm).2; rw [hdi] at this; cases this
      have mad0 : ∀ fr', fr'.fno = fr.fno → fr'.lc = fr.lc → MadeOK fr' (Nat.lor done (2 ^ i)) z.made := fun fr' e1 e2 =>
        ⟨fun j k blk hm => ⟨by rw [(I.mad.1 j k blk hm).1, key_eq, key_eq, e1, e2], by rw [lor_spec, (I.mad.1 j k blk hm).2]; rfl⟩, I.mad.2⟩
      simp only [drawOps] at h
      split at h
      · rename_i hw
        obtain ⟨fr', hp, hk⟩ := putK_spec h
        simp only [natC_eq] at hk
        obtain ⟨⟨f1, f2, f3, _⟩, fd, _⟩ := put_some' hp
        obtain ⟨_, hww⟩ := names_put (ops := ops) hp hown
        obtain ⟨hv', I'⟩ := I.virt hN hbar hp (z' := z) (fun _ _ => rfl) ⟨fun d hd => by rw [f3]; exact fd d hd, .inl ⟨hnm, by rw [← hww]; exact hw, dst_of_put hp⟩⟩ (fun _ h => h) (fun _ h => h) (fun _ _ _ h _ => h) (mad0 fr' f1 f2)
        exact Inv.advance hN rest _ hv' fr' z hk I'
      · rename_i hw
        unfold dOne at h
        split at h
        · rename_i hc
          cases hv0 : pureOp P fr o.op with
          | none => rw [hv0] at h; cases h
          | some v =>
            rw [hv0] at h
            simp only [putV] at h
            obtain ⟨fr', hp, hk⟩ := putK_spec h
            simp only [natC_eq] at hk
            obtain ⟨⟨f1, f2, f3, _⟩, fd, _⟩ := put_some' hp
            obtain ⟨hev, hww⟩ := names_put (ops := ops) hp hown
            obtain ⟨hv', I'⟩ := I.virt hN hbar hp (z' := z) (fun _ _ => rfl) ⟨fun d hd => by rw [f3]; exact fd d hd, .inr ⟨by rw [← hww]; exact hw, .inl ⟨hnm, hc, v, by rw [← pure_cong hev]; exact hv0, dst_of_put hp⟩⟩⟩ (fun _ h => h) (fun _ h => h) (fun _ _ _ h _ => h) (mad0 fr' f1 f2)
            exact Inv.advance hN rest _ hv' fr' z hk I'
        · rename_i hc
          cases hv0 : readOp P G fr (addMade b s.h z.made) o.op with
          | none => rw [hv0] at h; cases h
          | some v =>
            rw [hv0] at h
            obtain ⟨m, rd⟩ := z
            simp only [dRead] at h
            obtain ⟨fr', hp, hk⟩ := putK_spec h
            simp only [natC_eq] at hk
            obtain ⟨⟨f1, f2, f3, _⟩, fd, _⟩ := put_some' hp
            obtain ⟨hev, hww⟩ := names_put (ops := ops) hp hown
            rw [addMade_eq] at hv0
            obtain ⟨hv', I'⟩ := I.virt hN hbar hp (z' := ⟨m, (i, b, o.op, v) :: rd⟩) (fun _ _ => rfl) ⟨fun d hd => by rw [f3]; exact fd d hd, .inr ⟨by rw [← hww]; exact hw, .inr (.inl ⟨hnm, hc, v, List.mem_cons_self, by rw [← read_cong hev]; exact hv0, dst_of_put hp⟩)⟩⟩ (fun _ h => List.mem_cons_of_mem _ h) (fun _ h => h) (fun _ _ _ h _ => h) (mad0 fr' f1 f2)
            exact Inv.advance hN rest _ hv' fr' _ hk I'
        · rename_i hc
          cases hv0 : allocOp P fr (keyOf fr i) o.op with
          | none => rw [hv0] at h; cases h
          | some q =>
            obtain ⟨v, blk⟩ := q
            rw [hv0] at h
            obtain ⟨m, rd⟩ := z
            simp only [dAlloc] at h
            have hnone : hget s.h (keyOf fr i) = none := by
              cases hn : hget s.h (keyOf fr i) with
              | none => rfl
              | some x => rw [hn] at h; cases h
            rw [hnone] at h
            obtain ⟨fr', hp, hk⟩ := putK_spec h
            simp only [natC_eq] at hk
            obtain ⟨⟨f1, f2, f3, _⟩, fd, _⟩ := put_some' hp
            obtain ⟨hev, hww⟩ := names_put (ops := ops) hp hown
            have hkey : keyOf fr' i = keyOf fr i := by rw [key_eq, key_eq, f1, f2]
            have hmad : MadeOK fr' (Nat.lor done (2 ^ i)) ((i, keyOf fr i, blk) :: m) := by
              refine ⟨fun j k b' hm => ?_, fun j k b1 k' b2 h1 h2 => ?_⟩
              · rcases List.mem_cons.1 hm with e | e
                · cases e; exact ⟨hkey.symm, by rw [lor_spec]; simp⟩
                · exact (mad0 fr' f1 f2).1 j k b' e
              · have aux : ∀ k b', (i, k, b') ∈ m → False := fun k b' hm => by
                  have := (I.mad.1 i k b' hm).2; rw [hdi] at this; cases this
                rcases List.mem_cons.1 h1 with e | e <;> rcases List.mem_cons.1 h2 with e' | e'
                · cases e; cases e'; rfl
                · cases e; exact (aux _ _ e').elim
                · cases e'; exact (aux _ _ e).elim
                · exact I.mad.2 _ _ _ _ _ e e'
            obtain ⟨hv', I'⟩ := I.virt hN hbar hp (z' := ⟨(i, keyOf fr i, blk) :: m, rd⟩) (fun p hpi => by simp only [addP, hpi]) ⟨fun d hd => by rw [f3]; exact fd d hd, .inr ⟨by rw [← hww]; exact hw, .inr (.inr ⟨hc, v, blk, by rw [hkey]; exact List.mem_cons_self, by rw [hkey, ← alloc_cong hev]; exact hv0, dst_of_put hp, by rw [hkey]; exact hnone⟩)⟩⟩ (fun _ h => h) (fun _ h => List.mem_cons_of_mem _ h) (fun j k b' h hji => by
              rcases List.mem_cons.1 h with e | e
              · cases e; exact absurd rfl hji
              · exact e) hmad
            exact Inv.advance hN rest _ hv' fr' _ hk I'
        · rename_i hc; exact absurd hc hcls
end
end Go.Ai
