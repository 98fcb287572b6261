/- A part of an evaluator over an abstract heap and of the proof that it is sound for the model. CONDITIONS: those that each theorem names. -/
import Derived.Test.YtneoghpfbgjaiaaGreatDoorAiText
namespace Go.Ai
open Go
variable {P : Program} {G : Glob} {base : Nat}

theorem bump_rs {n : Nat} {ρ : Map} {fr : Fr} {s : St} {a : Act} {w : World} (r : RS G base n ρ fr s a w) : RS G base 0 ρ (fr.bump n) s a w ∧ (fr.bump n).fno = fr.fno ∧ (fr.bump n).rc = fr.rc := by
  obtain ⟨fno, lc, m, t, df, rc⟩ := fr
  have e : Fr.bump ⟨fno, lc, m, t, df, rc⟩ n = ⟨fno, lc + n, m, t, df, rc⟩ := by simp [Fr.bump, natC_eq]
  rw [e]
  exact ⟨⟨⟨r.rf.size, r.rf.tmp⟩, r.rm, r.lo, r.fn, r.df⟩, rfl, rfl⟩

theorem drop_get {α : Type} {l : List α} {i : Nat} {x : α} {r : List α} (h : x :: r = l.drop i) : l[i]? = some x ∧ r = l.drop (i + 1) := by
  constructor
  · have : (l.drop i)[0]? = some x := by rw [← h]; rfl
    simpa using this
  · have : (l.drop i).drop 1 = r := by rw [← h]; rfl
    rw [← this, List.drop_drop]

theorem skip_rs {ρ : Map} {fr fr' : Fr} {s : St} {a : Act} {w : World} {i : Nat} {dst : Option Tmp} (rs : RS G base i ρ fr s a w) (hf : fr.put dst .undef = some fr') :
    RS G base (i + 1) ρ fr' s (a.put dst undef) w ∧ fr'.fno = fr.fno ∧ fr'.lc = fr.lc ∧ fr'.rc = fr.rc :=
  rs.next (Adv.refl rs.rm.rh rs.rm.hi) hf (rv_undef _)

theorem RS.over {n : Nat} {ρ : Map} {fr : Fr} {s : St} {a : Act} {w : World} (r : RS G base n ρ fr s a w) : RS G base KK ρ fr s a w :=
  ⟨r.rf, r.rm, fun i h1 h2 => by rw [succ_KK] at h2; omega, r.fn, r.df⟩

/-- the operations, in the text's order, in a frame that is no deferred one -/
theorem text_sound {call : CallF} (HC : CallOK P G base call) {ops : Array Oper} {cs : List Frame} {fno : Nat} {ρ0 : Map} {s0 : St} {w0 : World} {OUTS : List (Ex × Fr × St)} :
    ∀ (l : List Oper) (i : Nat) (fr : Fr) (s : St) (outs : List (Ex × Fr × St)), textOps P G call ops l i fr s = some outs → l = ops.toList.drop i → (∀ x ∈ outs, x ∈ OUTS) → fr.lc + ops.size < KK → fr.rc = .no → fr.fno = fno →
      ∀ (ρ : Map) (a : Act) (w : World), RS G base i ρ fr s a w → Adv base (Own fno) ρ0 s0 w0 ρ s w →
        wpOps P ops (fun e a' w' => Post G base cs fno .no ρ0 s0 w0 OUTS e a' cs w') (List.range' i l.length) a w
  | [], i, fr, s, outs, h, hl, hsub, hk, hrc, hfno, ρ, a, w, rs, hadv => by
    simp only [textOps, Option.some.injEq] at h
    subst h
    obtain ⟨h1, h2, h3⟩ := bump_rs rs
    refine ⟨.normal, fr.bump i, s, ρ, hsub _ (List.mem_singleton.2 rfl), rfl, h1, hadv, h2.trans hfno, ?_, ?_, fun _ => h3.trans hrc⟩
    · rw [h3, hrc]; rfl
    · intro b hb; rw [h3, hrc]; exact hb
  | o :: rest, i, fr, s, outs, h, hl, hsub, hk, hrc, hfno, ρ, a, w, rs, hadv => by
    obtain ⟨hget, hrest⟩ := drop_get hl
    have hget' : ops[i]? = some o := by simpa using hget
    have hi : i < ops.size := (Array.getElem?_eq_some_iff.1 hget').1
    rw [List.length_cons, List.range'_succ, wpOps]
    simp only [hget']
    rw [wantedA_sound rs.rf ops o]
    simp only [textOps] at h
    split at h
    · rename_i hw
      rw [hw]
      simp only [Bool.false_eq_true, if_false]
      obtain ⟨fr', hf, hkk⟩ := putK_spec h
      obtain ⟨h1, h2, h3, h4⟩ := skip_rs rs hf
      exact text_sound HC rest (i + 1) fr' s outs hkk hrest hsub (by omega) (h4.trans hrc) (h2.trans hfno) ρ _ w h1 hadv
    · rename_i hw
      rw [hw]
      simp only [if_true]
      left
      have hrec : ¬ isRec o.op := by
        rintro ⟨c, hop, hc⟩
        simp only [oneOp, hop, clsOf, clsCall, hc, oneHeavy, oneCall, hrc, doRecover] at h
        cases h
      refine op_upon HC hrec rs (by omega) h ?_ ?_
      · intro fr' s' a' w' ρ' o' hko hsub' rs' hadv' ⟨h1, h2, h3⟩
        rw [hfno] at hadv'
        exact text_sound HC rest (i + 1) fr' s' o' hko hrest (fun x hx => hsub x (hsub' x hx)) (by omega) (h3.trans hrc) (h1.trans hfno) ρ' a' w' rs' (hadv.trans hadv')
      · intro v s' u w' ρ' hm ru rs' hadv'
        rw [hfno] at hadv'
        exact ⟨.pan v, fr, s', ρ', hsub _ hm, ⟨u, ru, rfl⟩, rs'.over, hadv.trans hadv', hfno, by rw [hrc]; rfl, fun b hb => by rw [hrc]; exact hb, fun _ => hrc⟩

/-- the same in a deferred frame: 'recover' is called there -/
theorem text_soundS {call : CallF} (HC : CallOK P G base call) {ops : Array Oper} {cs0 : List Frame} {fno : Nat} {rc : Rc} {ρ0 : Map} {s0 : St} {w0 : World} {OUTS : List (Ex × Fr × St)} :
    ∀ (l : List Oper) (i : Nat) (fr : Fr) (s : St) (outs : List (Ex × Fr × St)), textOps P G call ops l i fr s = some outs → l = ops.toList.drop i → (∀ x ∈ outs, x ∈ OUTS) → fr.lc + ops.size < KK → fr.fno = fno → fr.rc ≠ .no → (rc = .no → fr.rc = .no) → 
      ∀ (ρ : Map) (a : Act) (cs : List Frame) (w : World), RS G base i ρ fr s a w → Adv base (Own fno) ρ0 s0 w0 ρ s w → RCx ρ fr.rc cs0 cs →
        wpOpsS P ops (fun e a' cs' w' => Post G base cs0 fno rc ρ0 s0 w0 OUTS e a' cs' w') (List.range' i l.length) a cs w
  | [], i, fr, s, outs, h, hl, hsub, hk, hfno, hnn, hno, ρ, a, cs, w, rs, hadv, hcs => by
    simp only [textOps, Option.some.injEq] at h
    subst h
    obtain ⟨h1, h2, h3⟩ := bump_rs rs
    refine ⟨.normal, fr.bump i, s, ρ, hsub _ (List.mem_singleton.2 rfl), rfl, h1, hadv, h2.trans hfno, ?_, ?_, fun h => h3.trans (hno h)⟩
    · rw [h3]; exact hcs
    · intro b hb; rw [h3]
      have : rc ≠ .no := fun h => hnn (hno h)
      cases rc <;> cases hq : fr.rc <;> simp_all [FrOK]
  | o :: rest, i, fr, s, outs, h, hl, hsub, hk, hfno, hnn, hno, ρ, a, cs, w, rs, hadv, hcs => by
    obtain ⟨hget, hrest⟩ := drop_get hl
    have hget' : ops[i]? = some o := by simpa using hget
    have hi : i < ops.size := (Array.getElem?_eq_some_iff.1 hget').1
    rw [List.length_cons, List.range'_succ, wpOpsS]
    simp only [hget']
    rw [wantedA_sound rs.rf ops o]
    simp only [textOps] at h
    split at h
    · rename_i hw
      rw [hw]
      simp only [Bool.false_eq_true, if_false]
      obtain ⟨fr', hf, hkk⟩ := putK_spec h
      obtain ⟨h1, h2, h3, h4⟩ := skip_rs rs hf
      exact text_soundS HC rest (i + 1) fr' s outs hkk hrest hsub (by omega) (h2.trans hfno) (by rw [h4]; exact hnn) (by rw [h4]; exact hno) ρ _ cs w h1 hadv (by rw [h4]; exact hcs)
    · rename_i hw
      rw [hw]
      simp only [if_true]
      by_cases hrec : isRec o.op
      · obtain ⟨c, hop, hc⟩ := hrec
        have hrun : (execOp a.eval o).run P w = .ok .recover w := by
          obtain ⟨dst, op, ty, pos, after, gd⟩ := o
          simp only at hop
          subst hop
          rw [exec_builtin hc]
          rfl
        rw [hrun]
        simp only
        simp only [oneOp, hop, clsOf, clsCall, hc, oneHeavy, oneCall, doRecover] at h
        split at h
        · rename_i v hrc
          obtain ⟨fr', hf, hkk⟩ := putK_spec h
          rw [hrc] at hcs
          obtain ⟨c0, rest0, u, hcs0, ru, hcs1⟩ := hcs
          subst hcs1
          have hR : recoverD ({ c0 with mode := .panicking [{ v := u, recovered := false }] } :: rest0) = some (u, { c0 with mode := .panicking [{ v := u, recovered := true }] } :: rest0) := rfl
          rw [hR]
          simp only
          have rs' : RS G base i ρ (fr.recovers v) s a w := ⟨⟨rs.rf.size, rs.rf.tmp⟩, rs.rm, rs.lo, rs.fn, rs.df⟩
          obtain ⟨h1, h2, h3, h4⟩ := rs'.next (Adv.refl rs.rm.rh rs.rm.hi) hf ru
          have h4' : fr'.rc = .live v true := h4
          exact text_soundS HC rest (i + 1) fr' s outs hkk hrest hsub (by rw [h3]; exact hk) (h2.trans hfno) (by rw [h4']; simp) (fun h => by have := hno h; rw [hrc] at this; cases this) ρ _ _ w h1 hadv (by rw [h4']; exact ⟨c0, rest0, u, hcs0, ru, rfl⟩)
        · cases h
        · rename_i hnlive hnno
          obtain ⟨fr', hf, hkk⟩ := putK_spec h
          have hR : recoverD cs = none := by
            cases hq : fr.rc with
            | no => exact absurd hq hnn
            | idle =>
              rw [hq] at hcs
              obtain ⟨h1, c0, rest0, h2, h3⟩ := hcs
              subst h1 h2
              simp only [recoverD, h3]
            | live v d =>
              cases d with
              | false => exact absurd hq (hnlive v)
              | true =>
                rw [hq] at hcs
                obtain ⟨c0, rest0, u, hcs0, ru, hcs1⟩ := hcs
                subst hcs1
                rfl
          rw [hR]
          simp only
          obtain ⟨h1, h2, h3, h4⟩ := rs.next (v := .nili) (u := .nilIface) (Adv.refl rs.rm.rh rs.rm.hi) hf rfl
          exact text_soundS HC rest (i + 1) fr' s outs hkk hrest hsub (by rw [h3]; exact hk) (h2.trans hfno) (by rw [h4]; exact hnn) (by rw [h4]; exact hno) ρ _ cs w h1 hadv (by rw [h4]; exact hcs)
      · have hmain := op_upon (Q := fun e a' w' => Post G base cs0 fno rc ρ0 s0 w0 OUTS e a' cs w') HC hrec rs (by omega) h (K := fun a' w' => wpOpsS P ops (fun e a' cs' w' => Post G base cs0 fno rc ρ0 s0 w0 OUTS e a' cs' w') (List.range' (i + 1) rest.length) a' cs w') ?_ ?_
        · split
          · rename_i w' hr
            rw [hr] at hmain
            exact hmain.elim
          · exact hmain
        · intro fr' s' a' w' ρ' o' hko hsub' rs' hadv' ⟨h1, h2, h3⟩
          rw [hfno] at hadv'
          exact text_soundS HC rest (i + 1) fr' s' o' hko hrest (fun x hx => hsub x (hsub' x hx)) (by omega) (h1.trans hfno) (by rw [h3]; exact hnn) (by rw [h3]; exact hno) ρ' a' cs w' rs' (hadv.trans hadv') (by rw [h3]; exact hcs.mono hadv'.st.mono)
        · intro v s' u w' ρ' hm ru rs' hadv'
          rw [hfno] at hadv'
          refine ⟨.pan v, fr, s', ρ', hsub _ hm, ⟨u, ru, rfl⟩, rs'.over, hadv.trans hadv', hfno, hcs.mono hadv'.st.mono, fun b hb => ?_, hno⟩
          have : rc ≠ .no := fun h => hnn (hno h)
          cases rc <;> cases hq : fr.rc <;> simp_all [FrOK]
end Go.Ai
