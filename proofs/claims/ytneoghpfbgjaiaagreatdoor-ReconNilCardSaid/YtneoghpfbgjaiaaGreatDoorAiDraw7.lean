/- A part of an evaluator over an abstract heap and of the proof that it is sound for the model. CONDITIONS: those that each theorem names. -/
import Derived.Test.YtneoghpfbgjaiaaGreatDoorAiDraw6
namespace Go.Ai
open Go
variable {P : Program} {G : Glob} {base : Nat}
section
variable {ops : Array Oper} {bs : List Nat} {fno : Nat} {rc0 : Rc} {ρ0 : Map} {s0 : St} {w0 : World} {rest : List DE} {done hv : Nat} {fr : Fr} {s : St} {z : Seen} {L : Nat → Bool} {frL : Fr} {ρ : Map} {a : Act} {w : World}

/-- A STEP THAT EVALUATION AND RUN TAKE TOGETHER. -/
theorem Inv.sync {call : CallF} (HC : CallOK P G base call) {n i b st : Nat} {o : Oper} {outs : List (Ex × Fr × St)} (I : Inv P G base ops bs fno rc0 ρ0 s0 w0 ((i, b, st, o) :: rest) done hv fr s z L frL ρ a w) (hN : NamesOk ops bs) (hB : Bef ops bs) (hbar : isBar o = true)
    (h : drawOps P G call ops n ((i, b, st, o) :: rest) done fr s z = some outs) (hed : ∀ e ∈ o.after.toList, Region.binds .any e = true → L e.on = true) {K : Act → World → Prop} {Q : Exit → Act → World → Prop}
    (hK : ∀ outs' hv' fr' s' frL' ρ' a' w', drawOps P G call ops n rest (Nat.lor done (2 ^ i)) fr' s' z = some outs' → (∀ x ∈ outs', x ∈ outs) → Inv P G base ops bs fno rc0 ρ0 s0 w0 rest (Nat.lor done (2 ^ i)) hv' fr' s' z (plus L i) frL' ρ' a' w' → K a' w')
    (hQ : ∀ v s' u w' ρ', (Ex.pan v, fr, s') ∈ outs → RV ρ' v u → RS G base KK ρ' fr s' a w' → Adv base (Own fno) ρ0 s0 w0 ρ' s' w' → Q (.panic [{ v := u, recovered := false }]) a w') : wpOp P ops Q i K a w := by
  obtain ⟨hdi, hbd, _⟩ := orderOk_head I.ok
  obtain ⟨ho, hb⟩ := I.ent _ List.mem_cons_self
  simp only at ho hb
  have hin : i < ops.size := (Array.getElem?_eq_some_iff.1 ho).1
  have hLi : L i = false := by
    cases h : L i with
    | false => rfl
    | true => have := I.ld i h; rw [hdi] at this; cases this
  have hbL := hB.sub I.cl i b o ho hb hed
  obtain ⟨hev, hw⟩ := I.agree hN hB ho hb hbL
  obtain ⟨hfresh, hkey, hown⟩ := I.key hin hLi
  have hnm : NoMade z i := fun k blk hm => by have := (I.mad.1 i k blk hm).2; rw [hdi] at this; cases this
  have hsame : ∀ h : Heap, addP (plus L i) h z.made = addP L h z.made := fun h => addP_congr fun j k blk hm => by
    have : j ≠ i := fun e => by subst e; exact hnm k blk hm
    simp [plus, this]
  have hputL : ∀ v fr', fr.put o.dst v = some fr' → ∃ frL', frL.put o.dst v = some frL' := fun v fr' hp => put_ok frL o.dst v (fun t ht => by rw [I.fe.2.2.1]; exact (put_some' hp).2.1 t ht)
  have plain : ∀ (v : AV) (u : Value) (fr' : Fr), RV ρ v u → fr.put o.dst v = some fr' → drawOps P G call ops n rest (Nat.lor done (2 ^ i)) fr' s z = some outs → K (a.put o.dst u) w := by
    intro v u fr' ru hp hk
    obtain ⟨frL', hpL⟩ := hputL v fr' hp
    obtain ⟨hv', I'⟩ := I.bar hN hLi hed hbL (s' := s) (ρ' := ρ) (w' := w) hp hpL ru (by rw [hsame]; exact Adv.refl I.rm.rh I.rm.hi) (fun _ _ _ _ _ _ h => h) (fun _ _ _ _ _ h => h)
    exact hK outs hv' fr' s frL' ρ _ w hk (fun _ h => h) I'
  unfold wpOp
  simp only [ho]
  rw [wantedA_sound I.rf ops o, hw]
  simp only [drawOps] at h
  split at h
  · rename_i hw0
    rw [hw0]
    simp only [Bool.false_eq_true, if_false]
    obtain ⟨fr', hp, hk⟩ := putK_spec h
    simp only [natC_eq] at hk
    exact plain .undef undef fr' (rv_undef _) hp hk
  · rename_i hw0
    rw [hw0]
    simp only [if_true]
    left
    unfold Oper.wp
    unfold dOne at h
    split at h
    · rename_i hc
      cases hv0 : pureOp P fr o.op with
      | none => rw [hv0] at h; cases h
      | some v =>
        rw [hv0] at h
        simp only [putV] at h
        obtain ⟨fr', hp, hk⟩ := putK_spec h
        simp only [natC_eq] at hk
        obtain ⟨u, hu, ru⟩ := pure_sound I.rf ((pure_cong hev).trans hv0)
        rw [hu w, Oper.upon_value]
        exact plain v u fr' ru hp hk
    · rename_i hc
      exfalso
      unfold isBar at hbar
      split at hbar
      · rename_i x e; rw [e] at hc; simp [clsOf] at hc
      · rw [(clsHeavy_iff o).1 hbar] at hc; cases hc
    · rename_i hc
      exfalso
      unfold isBar at hbar
      split at hbar
      · rename_i x e; rw [e] at hc; simp [clsOf] at hc
      · rw [(clsHeavy_iff o).1 hbar] at hc; cases hc
    · have hs1 : s.withH (addMade b s.h z.made) = ⟨addP (fun k => b.testBit k) s.h z.made, s.fc⟩ := by rw [St.withH_eq, addMade_eq]
      have hd2 : ∃ l, heavy P call fr (keyOf fr i) ⟨addP (fun k => b.testBit k) s.h z.made, s.fc⟩ o.op = some l ∧
          dHeavy2 P G o b done fr (addP (fun k => b.testBit k) s.h z.made) z (fun fr s z => natC (Nat.lor done (2 ^ i)) fun d => drawOps P G call ops n rest d fr s z) (some l) = some outs := by
        rw [hs1] at h
        unfold dHeavy at h
        split at h
        · cases h
        · cases hl : heavy P call fr (keyOf fr i) ⟨addP (fun k => b.testBit k) s.h z.made, s.fc⟩ o.op with
          | none => rw [hl] at h; cases h
          | some l => rw [hl] at h; exact ⟨l, rfl, h⟩
      obtain ⟨l, hl, hd2⟩ := hd2
      simp only [dHeavy2] at hd2
      have hsub : ∀ k ab, hget (addP (fun k => b.testBit k) s.h z.made) k = some ab → hget (addP L s.h z.made) k = some ab := fun k ab hg => I.mad.sub hbL hg
      have rm1 : RM G base ρ ⟨addP (fun k => b.testBit k) s.h z.made, s.fc⟩ w := ⟨I.rm.rh.sub fun k ab hg _ => hsub k ab hg, I.rm.rg, I.rm.bs, I.rm.hi⟩
      -- how a step there is a step here
      have lift : ∀ s' ρ' w', asideOk (addP (fun k => b.testBit k) s.h z.made) s'.h z.made = true → Adv base (fun k => k = keyOf fr i) ρ ⟨addP (fun k => b.testBit k) s.h z.made, s.fc⟩ w ρ' s' w' →
          Adv base (fun k => k = keyOf fr i) ρ ⟨addP L s.h z.made, s.fc⟩ w ρ' ⟨addP (plus L i) s'.h z.made, s'.fc⟩ w' := by
        intro s' ρ' w' has hadv
        refine ⟨Stp.frame I.rm.rh hsub hadv.st fun k ab hg hd => ?_, hadv.fc, hadv.keep, hadv.hi⟩
        rw [hsame] at hg
        simp only at hg
        rw [addP_get] at hg
        cases hh : hget s'.h k with
        | some x => rw [hh] at hg; left; simpa using hg
        | none =>
          right
          rw [hh, Option.none_or] at hg
          obtain ⟨j, hm, hj⟩ := lookM_some hg
          have h1 := (asideOk_spec has j k ab hm).2 hh
          refine ⟨h1, ?_⟩
          show hget (addP L s.h z.made) k = some ab
          rw [addP_get] at h1 ⊢
          cases hq : hget s.h k with
          | some x => rw [hq] at h1; simp at h1
          | none => rw [Option.none_or]; exact hg
      refine heavy_sound HC rm1 I.rf hfresh hkey ((heavy_cong hev).trans hl) ?_ ?_
      · intro v s' u w' ρ' hm hadv ru
        obtain ⟨o', h1, h2⟩ := drawOuts_val hd2 hm
        split at h1
        · rename_i hr1 hr2
          obtain ⟨fr', hp, hk⟩ := putK_spec h1
          simp only [natC_eq] at hk
          obtain ⟨frL', hpL⟩ := hputL v fr' hp
          obtain ⟨hv', I'⟩ := I.bar hN hLi hed hbL (s' := s') (ρ' := ρ') (w' := w') hp hpL ru (lift s' ρ' w' hr2 hadv) (fun j bj oj vj hLj hm _ => readsOk_spec hr1 bj oj vj (readsLeft_mem hm (by
              cases hq : b.testBit j with
              | false => rfl
              | true => have := hbL j hq; rw [hLj] at this; cases this))) (fun j k blk hLj hm hn => by
              refine (asideOk_spec hr2 j k blk hm).1 ?_
              rw [addP_get, hn, Option.none_or]
              cases hq : lookM (fun k => b.testBit k) k z.made with
              | none => rfl
              | some x =>
                obtain ⟨j', h3, h4⟩ := lookM_some hq
                have e1 := (I.mad.1 _ _ _ h3).1
                have e2 := (I.mad.1 _ _ _ hm).1
                have := key_inj (e1.symm.trans e2)
                subst this
                have := hbL j' h4
                rw [hLj] at this; cases this)
          exact hK o' hv' fr' s' frL' ρ' _ w' hk h2 I'
        · cases h1
      · intro v s' u w' ρ' hm hadv ru
        obtain ⟨h1, h2⟩ := drawOuts_pan hd2 hm
        have hall : ∀ j, done.testBit j = true → L j = true := fun j hj => hbL j (covers_spec h1 hj)
        have hbL' : addP (fun k => b.testBit k) s.h z.made = addP L s.h z.made := addP_congr fun j k blk hm => by
          have hdj := (I.mad.1 j k blk hm).2
          rw [covers_spec h1 hdj, hall j hdj]
        rw [hbL'] at hadv
        have hadv' : Adv base (Own fno) ρ0 s0 w0 ρ' s' w' := I.ad.trans (hadv.mono fun k _ e => by rw [e]; exact hown)
        have rf' : RF ρ' fr a := by
          have rfL := I.rf.mono hadv.st.mono
          refine ⟨by rw [rfL.size, I.fe.2.2.1], fun t => ?_⟩
          rw [← I.ag t fun j oj hoj hd hdj => hall j hdj]
          exact rfL.tmp t
        refine hQ v s' u w' ρ' h2 ru ⟨rf', I.rm.adv hadv, fun k h3 h4 => ?_, Nat.lt_of_lt_of_le I.fn hadv.fc, I.df.mono hadv.st.mono⟩ hadv'
        rw [succ_KK] at h4; omega
end
end Go.Ai
