/- A part of an evaluator over an abstract heap and of the proof that it is sound for the model. CONDITIONS: those that each theorem names. -/
import Derived.Test.YtneoghpfbgjaiaaGreatDoorAiStep
namespace Go.Ai
open Go
variable {P : Program} {G : Glob} {base : Nat}

def RX (ρ : Map) : Ex → Exit → Prop
  | .normal, e => e = .normal
  | .exit id, e => e = .exit id
  | .ret, e => e = .ret
  | .pan v, e => ∃ u, RV ρ v u ∧ e = .panic [{ v := u, recovered := false }]

/-- after a panic the frame makes no more names -/
def offOf : Ex → Nat
  | .pan _ => KK
  | _ => 0
/-- one of the ways out comes about -/
def Post (G : Glob) (base : Nat) (cs0 : List Frame) (fno : Nat) (rc : Rc) (ρ0 : Map) (s0 : St) (w0 : World) (outs : List (Ex × Fr × St)) (e : Exit) (a' : Act) (cs' : List Frame) (w' : World) : Prop :=
  ∃ x fr' s' ρ', (x, fr', s') ∈ outs ∧ RX ρ' x e ∧ RS G base (offOf x) ρ' fr' s' a' w' ∧ Adv base (Own fno) ρ0 s0 w0 ρ' s' w' ∧ fr'.fno = fno ∧ RCx ρ' fr'.rc cs0 cs' ∧ (∀ b, FrOK rc b → FrOK fr'.rc b) ∧ (rc = .no → fr'.rc = .no)

theorem outsTo_val {f : AV → St → Res} {fr : Fr} : ∀ {l : List Out} {res : List (Ex × Fr × St)} {v : AV} {s : St}, outsTo f fr l = some res → Out.val v s ∈ l → ∃ o', f v s = some o' ∧ ∀ x ∈ o', x ∈ res
  | [], _, _, _, _, h => by cases h
  | .val v0 s0 :: rest, res, v, s, h, hm => by
    simp only [outsTo] at h
    split at h
    · cases h
    · rename_i a ha
      split at h
      · cases h
        rcases List.mem_cons.1 hm with e | e
        · cases e; exact ⟨_, ha, fun _ h => h⟩
        · cases e
      · rename_i hne
        split at h
        · cases h
        · rename_i b hb
          cases h
          rcases List.mem_cons.1 hm with e | e
          · cases e; exact ⟨_, ha, fun x h => List.mem_append_left _ h⟩
          · obtain ⟨o', h1, h2⟩ := outsTo_val hb e
            exact ⟨o', h1, fun x hx => List.mem_append_right _ (h2 x hx)⟩
  | .pan v0 s0 :: rest, res, v, s, h, hm => by
    simp only [outsTo] at h
    split at h
    · cases h
    · rename_i b hb
      cases h
      rcases List.mem_cons.1 hm with e | e
      · cases e
      · obtain ⟨o', h1, h2⟩ := outsTo_val hb e
        exact ⟨o', h1, fun x hx => List.mem_cons_of_mem _ (h2 x hx)⟩
theorem outsTo_pan {f : AV → St → Res} {fr : Fr} : ∀ {l : List Out} {res : List (Ex × Fr × St)} {v : AV} {s : St}, outsTo f fr l = some res → Out.pan v s ∈ l → (Ex.pan v, fr, s) ∈ res
  | [], _, _, _, _, h => by cases h
  | .val v0 s0 :: rest, res, v, s, h, hm => by
    simp only [outsTo] at h
    split at h
    · cases h
    · rename_i a ha
      split at h
      · cases h
        rcases List.mem_cons.1 hm with e | e
        · cases e
        · cases e
      · rename_i hne
        split at h
        · cases h
        · rename_i b hb
          cases h
          rcases List.mem_cons.1 hm with e | e
          · cases e
          · exact List.mem_append_right _ (outsTo_pan hb e)
  | .pan v0 s0 :: rest, res, v, s, h, hm => by
    simp only [outsTo] at h
    split at h
    · cases h
    · rename_i b hb
      cases h
      rcases List.mem_cons.1 hm with e | e
      · cases e; exact List.mem_cons_self
      · exact List.mem_cons_of_mem _ (outsTo_pan hb e)

theorem putK_spec {s : St} {k : Fr → St → Res} {o : Option Fr} {res : List (Ex × Fr × St)} (h : putK s k o = some res) : ∃ fr, o = some fr ∧ k fr s = some res := by
  unfold putK at h
  split at h
  · exact ⟨_, rfl, h⟩
  · cases h

theorem wantedA_sound {ρ : Map} {fr : Fr} {a : Act} (r : RF ρ fr a) (ops : Array Oper) (o : Oper) : Region.wanted o (yielded ops a.tmps) = wantedA fr ops o := by
  unfold Region.wanted wantedA
  cases o.guard with
  | none => rfl
  | some q =>
    obtain ⟨j, want⟩ := q
    simp only [yielded, Array.getElem?_toList]
    cases ops[j]? with
    | none => rfl
    | some g =>
      simp only [Option.bind_some]
      cases g.dst with
      | none => rfl
      | some d =>
        simp only [Option.bind_some]
        have h1 := r.tmp d
        have h2 : a.tmps.getD d undef = (a.tmps[d]?).getD undef := by simp
        rw [h2] at h1
        cases hg : fr.t.get d with
        | none =>
          rw [hg] at h1
          simp only [Option.getD_none] at h1
          obtain ⟨vs, hv, he⟩ := h1
          cases ht : a.tmps[d]? with
          | none => rfl
          | some u => rw [ht] at he; simp only [Option.getD_some] at he; subst he; rfl
        | some v =>
          rw [hg] at h1
          simp only [Option.getD_some] at h1
          cases v with
          | bool b =>
            simp only [RV] at h1
            cases ht : a.tmps[d]? with
            | none => rw [ht] at h1; cases h1
            | some u => rw [ht] at h1; simp only [Option.getD_some] at h1; subst h1; simp only; cases b <;> cases want <;> rfl
          | _ =>
            cases ht : a.tmps[d]? with
            | none => rfl
            | some u =>
              rw [ht] at h1
              simp only [Option.getD_some] at h1
              cases u <;> first
                | rfl
                | (exfalso; first
                  | (simp only [RV] at h1; cases h1; done)
                  | (obtain ⟨_, _, h1⟩ := h1; cases h1; done)
                  | (obtain ⟨_, _, _, _, h1⟩ := h1; cases h1; done)
                  | (obtain ⟨_, _, _, h1⟩ := rv_slice_some h1; cases h1; done))

section
variable {ρ : Map} {fr : Fr} {a : Act} {s : St} {w : World} {n : Nat}

theorem RS.key {i : Nat} (r : RS G base i ρ fr s a w) (hk : fr.lc + i < KK) : ρ (keyOf fr i) = none ∧ keyOf fr i < s.fc * KK ∧ Own fr.fno (keyOf fr i) := by
  have e := key_eq fr i
  have hf := r.fn
  have h1 : (fr.fno + 1) * KK ≤ s.fc * KK := Nat.mul_le_mul_right _ hf
  have h2 : (fr.fno + 1) * KK = fr.fno * KK + KK := succ_KK _
  generalize hk' : keyOf fr i = k at e ⊢
  refine ⟨r.lo _ (by omega) (by omega), by omega, ⟨by omega, by omega⟩⟩

theorem RS.next {i : Nat} {fr' : Fr} {s' : St} {ρ' : Map} {w' : World} {v : AV} {u : Value} {dst : Option Tmp} (r : RS G base i ρ fr s a w) (h : Adv base (fun j => j = keyOf fr i) ρ s w ρ' s' w') (hp : fr.put dst v = some fr') (rv : RV ρ' v u) :
    RS G base (i + 1) ρ' fr' s' (a.put dst u) w' ∧ fr'.fno = fr.fno ∧ fr'.lc = fr.lc ∧ fr'.rc = fr.rc := by
  obtain ⟨h1, h2, h3, h4, h5, h6⟩ := (r.rf.mono h.st.mono).put hp rv
  refine ⟨⟨h1, r.rm.adv h, fun j hj hj2 => ?_, by rw [h2]; exact Nat.lt_of_lt_of_le r.fn h.fc, ?_⟩, h2, h3, h5⟩
  · rw [h2, h3] at hj; rw [h2] at hj2
    have e := key_eq fr i
    have hlt : (fr.fno + 1) * KK ≤ s.fc * KK := Nat.mul_le_mul_right _ r.fn
    have hkeep := h.keep j
    generalize keyOf fr i = k at e hkeep
    rw [hkeep (by omega) (by omega)]
    exact r.lo j (by omega) hj2
  · rw [h4, put_defers]; exact r.df.mono h.st.mono
end

/-- is it a call of 'recover'? -/
def isRec (o : Op) : Prop := ∃ c, o = .call c ∧ c.callee = .builtin .recover

section
variable {ρ : Map} {fr : Fr} {a : Act} {s : St} {w : World}

/-- ONE OPERATION. -/
theorem op_upon {call : CallF} (HC : CallOK P G base call) {o : Oper} {i : Nat} {k : Fr → St → Res} {outs : List (Ex × Fr × St)} (hrec : ¬ isRec o.op) (rs : RS G base i ρ fr s a w) (hk : fr.lc + i < KK) (h : oneOp P G call o.dst o.op i fr s k = some outs)
    {K : Act → World → Prop} {Q : Exit → Act → World → Prop}
    (hK : ∀ fr' s' a' w' ρ' o', k fr' s' = some o' → (∀ x ∈ o', x ∈ outs) → RS G base (i + 1) ρ' fr' s' a' w' → Adv base (Own fr.fno) ρ s w ρ' s' w' → fr'.fno = fr.fno ∧ fr'.lc = fr.lc ∧ fr'.rc = fr.rc → K a' w')
    (hQ : ∀ v s' u w' ρ', (Ex.pan v, fr, s') ∈ outs → RV ρ' v u → RS G base (i + 1) ρ' fr s' a w' → Adv base (Own fr.fno) ρ s w ρ' s' w' → Q (.panic [{ v := u, recovered := false }]) a w') :
    o.upon P a K Q ((execOp a.eval o).run P w) := by
  obtain ⟨hfresh, hkey, hown⟩ := rs.key hk
  have ownK : ∀ j, j < s.fc * KK → j = keyOf fr i → Own fr.fno j := fun j _ e => by rw [e]; exact hown
  have pureCase : ∀ v, (∃ u, (execOp a.eval o).run P w = .ok (.value u) w ∧ RV ρ v u) → putV fr o.dst s k (some v) = some outs → o.upon P a K Q ((execOp a.eval o).run P w) := by
    rintro v ⟨u, hu, ru⟩ hp
    obtain ⟨fr', hf, hkk⟩ := putK_spec hp
    rw [hu, Oper.upon_value]
    have hadv := Adv.refl (ok := fun j => j = keyOf fr i) rs.rm.rh rs.rm.hi
    obtain ⟨h1, h2⟩ := rs.next hadv hf ru
    exact hK fr' s _ w ρ outs hkk (fun _ h => h) h1 (hadv.mono ownK) h2
  unfold oneOp at h
  split at h
  · cases hp : pureOp P fr o.op with
    | none => rw [hp] at h; cases h
    | some v =>
      rw [hp] at h
      obtain ⟨u, hu, ru⟩ := pure_sound rs.rf hp
      exact pureCase v ⟨u, hu w, ru⟩ h
  · cases hp : readOp P G fr s.h o.op with
    | none => rw [hp] at h; cases h
    | some v =>
      rw [hp] at h
      obtain ⟨u, hu, ru⟩ := read_sound rs.rm.rh rs.rm.rg rs.rf hp
      exact pureCase v ⟨u, hu, ru⟩ h
  · unfold oneAlloc at h
    cases hp : newBlk P fr s.h (keyOf fr i) o.op with
    | none => rw [hp] at h; cases h
    | some q =>
      obtain ⟨v, b⟩ := q
      rw [hp] at h
      obtain ⟨fr', hf, hkk⟩ := putK_spec h
      obtain ⟨ρ', w', u, hu, hst, hρ, ru⟩ := newBlk_sound (s := s) rs.rm.rh hfresh rs.rm.bs rs.rf hp
      obtain ⟨u1, u2⟩ := upd_h s (keyOf fr i) b
      have hadv : Adv base (fun j => j = keyOf fr i) ρ s w ρ' (s.upd (keyOf fr i) b) w' := ⟨by rw [u1]; exact hst, by rw [u2]; exact Nat.le_refl _, fun j _ hn => hρ j hn, fun j hj => by
        rw [u2] at hj
        rw [hρ j (by omega)]; exact rs.rm.hi j hj⟩
      obtain ⟨h1, h2⟩ := rs.next hadv hf ru
      rw [hu, Oper.upon_value]
      exact hK fr' _ _ w' ρ' outs hkk (fun _ h => h) h1 (hadv.mono ownK) h2
  · have heavyCase : ∀ l, heavy P call fr (keyOf fr i) s o.op = some l → putO fr o.dst k (some l) = some outs → o.upon P a K Q ((execOp a.eval o).run P w) := by
      intro l hl hp
      refine heavy_sound HC rs.rm rs.rf hfresh hkey hl ?_ ?_
      · intro v s' u w' ρ' hm hadv ru
        obtain ⟨o', h1, h2⟩ := outsTo_val hp hm
        obtain ⟨fr', hf, hkk⟩ := putK_spec h1
        obtain ⟨h3, h4⟩ := rs.next hadv hf ru
        exact hK fr' s' _ w' ρ' o' hkk h2 h3 (hadv.mono ownK) h4
      · intro v s' u w' ρ' hm hadv ru
        obtain ⟨h3, h4⟩ := rs.next (dst := none) (fr' := fr) (u := undef) hadv rfl (rv_undef _)
        exact hQ v s' u w' ρ' (outsTo_pan hp hm) ru h3 (hadv.mono ownK)
    unfold oneHeavy at h
    split at h
    · rename_i c hop
      cases hd : deferA fr c with
      | none => rw [hd] at h; cases h
      | some d =>
        rw [hd] at h
        obtain ⟨fr', hf, hkk⟩ := putK_spec h
        obtain ⟨dst, op, ty, pos, after, gd⟩ := o
        simp only at hop hf
        subst hop
        unfold deferA at hd
        split at hd
        · rename_i fo hc
          split at hd
          · rename_i g first captured as hfo has
            cases hd
            obtain ⟨f', c', r1, r2, hfv⟩ := rs.rf.ev hfo
            have ra := rs.rf.evs has
            have hrun : (execOp a.eval ⟨dst, .defer c, ty, pos, after, gd⟩).run P w = .ok (.defer { target := .fn (.func g) c'.toArray, args := (f' ++ c.args.toList.map a.eval).toArray }) w := by
              simp only [execOp, resolve, hc, hfv, Deferred.ofValue, Sem.run_bind, Sem.run_pure, Result.andThen_ok]
              have : f'.toArray ++ c.args.map a.eval = (f' ++ c.args.toList.map a.eval).toArray := by apply Array.toList_inj.1; simp
              rw [this]
            rw [hrun, Oper.upon_defer]
            have hadv := Adv.refl (ok := fun j => j = keyOf fr i) rs.rm.rh rs.rm.hi
            have rs' : RS G base i ρ (fr.defer (.fn (.func g) first captured, as)) s { a with defers := { target := .fn (.func g) c'.toArray, args := (f' ++ c.args.toList.map a.eval).toArray } :: a.defers } w :=
              ⟨⟨rs.rf.size, rs.rf.tmp⟩, rs.rm, rs.lo, rs.fn, _, _, ⟨g, first, captured, rfl, f', c', _, r1, r2, ra, rfl⟩, rs.df, rfl⟩
            obtain ⟨h1, h2⟩ := rs'.next (dst := dst) (u := undef) hadv hf (rv_undef _)
            exact hK fr' s _ w ρ outs hkk (fun _ h => h) h1 (hadv.mono ownK) h2
          · cases hd
        · cases hd
    · rename_i c hop
      unfold oneCall at h
      split at h
      · rename_i hc; exact absurd ⟨c, hop, hc⟩ hrec
      · cases hl : heavyCall P call fr (keyOf fr i) s c with
        | none => rw [hl] at h; cases h
        | some l =>
          rw [hl] at h
          exact heavyCase l (by rw [hop]; exact hl) h
    · rename_i hnd hnc
      cases hl : actOp P fr s o.op with
      | none => rw [hl] at h; cases h
      | some l =>
        rw [hl] at h
        refine heavyCase l ?_ h
        unfold heavy
        split
        · rename_i c hop; exact absurd hop (hnc c)
        · exact hl
end
end Go.Ai
