/- A part of an evaluator over an abstract heap and of the proof that it is sound for the model. CONDITIONS: those that each theorem names. -/
import Derived.RangeFuncRecord
import Derived.Test.YtmnhaoadhkdinaaGreatDoorEngineA
import Derived.Test.YtmnhaoadhkdinaaGreatDoorEngineB
namespace Go.Ai
open Go
variable {P : Program} {G : Glob} {base : Nat}

def RX (ρ : Map) : Ex → Exit → Prop
  | .normal, e => e = .normal
  | .exit id, e => e = .exit id
  | .ret, e => e = .ret
  | .pan v, e => ∃ u, RV ρ v u ∧ e = .panic [{ v := u, recovered := false }]

/-- after a panic the frame makes no more names -/
def offOf : Ex → Nat
  | .pan _ => KK
  | _ => 0
/-- one of the ways out comes about -/
def Post (G : Glob) (base : Nat) (cs0 : List Frame) (fno : Nat) (rc : Rc) (ρ0 : Map) (s0 : St) (w0 : World) (outs : List (Ex × Fr × St)) (e : Exit) (a' : Act) (cs' : List Frame) (w' : World) : Prop :=
  ∃ x fr' s' ρ', (x, fr', s') ∈ outs ∧ RX ρ' x e ∧ RS G base (offOf x) ρ' fr' s' a' w' ∧ Adv base (Own fno) ρ0 s0 w0 ρ' s' w' ∧ fr'.fno = fno ∧ RCx ρ' fr'.rc cs0 cs' ∧ (∀ b, FrOK rc b → FrOK fr'.rc b) ∧ (rc = .no → fr'.rc = .no)

theorem outsTo_val {f : AV → St → Res} {fr : Fr} : ∀ {l : List Out} {res : List (Ex × Fr × St)} {v : AV} {s : St}, outsTo f fr l = some res → Out.val v s ∈ l → ∃ o', f v s = some o' ∧ ∀ x ∈ o', x ∈ res
  | [], _, _, _, _, h => by cases h
  | .val v0 s0 :: rest, res, v, s, h, hm => by
    simp only [outsTo] at h
    split at h
    · cases h
    · rename_i a ha
      split at h
      · cases h
        rcases List.mem_cons.1 hm with e | e
        · cases e; exact ⟨_, ha, fun _ h => h⟩
        · cases e
      · rename_i hne
        split at h
        · cases h
        · rename_i b hb
          cases h
          rcases List.mem_cons.1 hm with e | e
          · cases e; exact ⟨_, ha, fun x h => List.mem_append_left _ h⟩
          · obtain ⟨o', h1, h2⟩ := outsTo_val hb e
            exact ⟨o', h1, fun x hx => List.mem_append_right _ (h2 x hx)⟩
  | .pan v0 s0 :: rest, res, v, s, h, hm => by
    simp only [outsTo] at h
    split at h
    · cases h
    · rename_i b hb
      cases h
      rcases List.mem_cons.1 hm with e | e
      · cases e
      · obtain ⟨o', h1, h2⟩ := outsTo_val hb e
        exact ⟨o', h1, fun x hx => List.mem_cons_of_mem _ (h2 x hx)⟩
theorem outsTo_pan {f : AV → St → Res} {fr : Fr} : ∀ {l : List Out} {res : List (Ex × Fr × St)} {v : AV} {s : St}, outsTo f fr l = some res → Out.pan v s ∈ l → (Ex.pan v, fr, s) ∈ res
  | [], _, _, _, _, h => by cases h
  | .val v0 s0 :: rest, res, v, s, h, hm => by
    simp only [outsTo] at h
    split at h
    · cases h
    · rename_i a ha
      split at h
      · cases h
        rcases List.mem_cons.1 hm with e | e
        · cases e
        · cases e
      · rename_i hne
        split at h
        · cases h
        · rename_i b hb
          cases h
          rcases List.mem_cons.1 hm with e | e
          · cases e
          · exact List.mem_append_right _ (outsTo_pan hb e)
  | .pan v0 s0 :: rest, res, v, s, h, hm => by
    simp only [outsTo] at h
    split at h
    · cases h
    · rename_i b hb
      cases h
      rcases List.mem_cons.1 hm with e | e
      · cases e; exact List.mem_cons_self
      · exact List.mem_cons_of_mem _ (outsTo_pan hb e)

theorem putK_spec {s : St} {k : Fr → St → Res} {o : Option Fr} {res : List (Ex × Fr × St)} (h : putK s k o = some res) : ∃ fr, o = some fr ∧ k fr s = some res := by
  unfold putK at h
  split at h
  · exact ⟨_, rfl, h⟩
  · cases h

theorem wantedA_sound {ρ : Map} {fr : Fr} {a : Act} (r : RF ρ fr a) (ops : Array Oper) (o : Oper) : Region.wanted o (yielded ops a.tmps) = wantedA fr ops o := by
  unfold Region.wanted wantedA
  cases o.guard with
  | none => rfl
  | some q =>
    obtain ⟨j, want⟩ := q
    simp only [yielded, Array.getElem?_toList]
    cases ops[j]? with
    | none => rfl
    | some g =>
      simp only [Option.bind_some]
      cases g.dst with
      | none => rfl
      | some d =>
        simp only [Option.bind_some]
        have h1 := r.tmp d
        have h2 : a.tmps.getD d undef = (a.tmps[d]?).getD undef := by simp
        rw [h2] at h1
        cases hg : fr.t.get d with
        | none =>
          rw [hg] at h1
          simp only [Option.getD_none] at h1
          obtain ⟨vs, hv, he⟩ := h1
          cases ht : a.tmps[d]? with
          | none => rfl
          | some u => rw [ht] at he; simp only [Option.getD_some] at he; subst he; rfl
        | some v =>
          rw [hg] at h1
          simp only [Option.getD_some] at h1
          cases v with
          | bool b =>
            simp only [RV] at h1
            cases ht : a.tmps[d]? with
            | none => rw [ht] at h1; cases h1
            | some u => rw [ht] at h1; simp only [Option.getD_some] at h1; subst h1; simp only; cases b <;> cases want <;> rfl
          | _ =>
            cases ht : a.tmps[d]? with
            | none => rfl
            | some u =>
              rw [ht] at h1
              simp only [Option.getD_some] at h1
              cases u <;> first
                | rfl
                | (exfalso; first
                  | (simp only [RV] at h1; cases h1; done)
                  | (obtain ⟨_, h1⟩ := h1; cases h1; done)
                  | (obtain ⟨_, _, h1⟩ := h1; cases h1; done)
                  | (obtain ⟨_, _, _, _, h1⟩ := h1; cases h1; done)
                  | (obtain ⟨_, _, _, h1⟩ := rv_slice_some h1; cases h1; done))

section
variable {ρ : Map} {fr : Fr} {a : Act} {s : St} {w : World} {n : Nat}

theorem RS.key {i : Nat} (r : RS G base i ρ fr s a w) (hk : fr.lc + i < KK) : ρ (keyOf fr i) = none ∧ keyOf fr i < s.fc * KK ∧ Own fr.fno (keyOf fr i) := by
  have e := key_eq fr i
  have hf := r.fn
  have h1 : (fr.fno + 1) * KK ≤ s.fc * KK := Nat.mul_le_mul_right _ hf
  have h2 : (fr.fno + 1) * KK = fr.fno * KK + KK := succ_KK _
  generalize hk' : keyOf fr i = k at e ⊢
  refine ⟨r.lo _ (by omega) (by omega), by omega, ⟨by omega, by omega⟩⟩

theorem RS.next {i : Nat} {fr' : Fr} {s' : St} {ρ' : Map} {w' : World} {v : AV} {u : Value} {dst : Option Tmp} (r : RS G base i ρ fr s a w) (h : Adv base (fun j => j = keyOf fr i) ρ s w ρ' s' w') (hp : fr.put dst v = some fr') (rv : RV ρ' v u) :
    RS G base (i + 1) ρ' fr' s' (a.put dst u) w' ∧ fr'.fno = fr.fno ∧ fr'.lc = fr.lc ∧ fr'.rc = fr.rc := by
  obtain ⟨h1, h2, h3, h4, h5, h6⟩ := (r.rf.mono h.st.mono).put hp rv
  refine ⟨⟨h1, r.rm.adv h, fun j hj hj2 => ?_, by rw [h2]; exact Nat.lt_of_lt_of_le r.fn h.fc, ?_⟩, h2, h3, h5⟩
  · rw [h2, h3] at hj; rw [h2] at hj2
    have e := key_eq fr i
    have hlt : (fr.fno + 1) * KK ≤ s.fc * KK := Nat.mul_le_mul_right _ r.fn
    have hkeep := h.keep j
    generalize keyOf fr i = k at e hkeep
    rw [hkeep (by omega) (by omega)]
    exact r.lo j (by omega) hj2
  · rw [h4, put_defers]; exact r.df.mono h.st.mono
end

/-- is it a call of 'recover'? -/
def isRec (o : Op) : Prop := ∃ c, o = .call c ∧ c.callee = .builtin .recover

section
variable {ρ : Map} {fr : Fr} {a : Act} {s : St} {w : World}

/-- behind an operation, where a round may be asked for -/
def UpY (P : Program) (rc : Rc) (o : Oper) (a : Act) (K : Act → World → Prop) (Q : Exit → Act → World → Prop) (r : Result Next) : Prop :=
  o.upon P a K Q r ∨ (rc = .no ∧ o.uponIn Fence.wide 0 P a K Q r)

theorem yieldT_sound {dst : Option Tmp} {c : Call} {ty : TypeId} {pos : String} {after : Array Edge} {gd : Option (Nat × Bool)} (r : RF ρ fr a) {k : Nat} {args : List AV} (h : yieldT fr c = some (k, args)) :
    ∃ e vs, ρ k = some e ∧ RVs ρ args vs ∧ (execOp a.eval ⟨dst, .call c, ty, pos, after, gd⟩).run P w = (Instr.yield e.b vs.toArray).run P w := by
  have e0 : execOp a.eval ⟨dst, .call c, ty, pos, after, gd⟩ = (do let d ← resolve a.eval c ty; invoke d.target d.args) := rfl
  unfold yieldT at h
  split at h
  · rename_i fo hc
    split at h
    · rename_i k' as hf has
      cases h
      obtain ⟨e, he, hfv⟩ := r.ev hf
      have ra := r.evs has
      refine ⟨e, c.args.toList.map a.eval, he, ra, ?_⟩
      rw [e0]
      simp only [resolve, hc, hfv, Deferred.ofValue, Sem.run_bind, Sem.run_pure, Result.andThen_ok, invoke]
      congr 2
      apply Array.toList_inj.1
      simp
    · cases h
  · cases h

theorem MeetsY.upon {o : Oper} {K : Act → World → Prop} {Q : Exit → Act → World → Prop} {r : Result Next} {R : Ending → World → Prop} (h : MeetsY P r R)
    (hK : ∀ u w', R (.returned u) w' → K (a.put o.dst u) w') (hQ : ∀ ch w', R (.panicked ch) w' → Q (.panic ch) a w') (hR : ∀ w', ¬ R .outgrown w') : o.uponIn Fence.wide 0 P a K Q r := by
  obtain ⟨l, f, tmps, assign, body, w', hr, h⟩ := h
  rw [hr, Oper.uponIn_round]
  refine ⟨(fun h => by simp [Fence.wide] at h), h.mono fun e w'' he => ?_⟩
  cases e with
  | returned v => exact hK _ _ he
  | panicked ch => exact hQ _ _ he
  | outgrown => exact (hR _ he).elim

/-- ONE OPERATION. -/
theorem op_upon {call : CallF} (HC : CallOK P G base call) {o : Oper} {i : Nat} {k : Fr → St → Res} {outs : List (Ex × Fr × St)} (hrec : ¬ isRec o.op) (rs : RS G base i ρ fr s a w) (hk : fr.lc + i < KK) (h : oneOp P G call o.dst o.op i fr s k = some outs)
    {K : Act → World → Prop} {Q : Exit → Act → World → Prop}
    (hK : ∀ fr' s' a' w' ρ' o', k fr' s' = some o' → (∀ x ∈ o', x ∈ outs) → RS G base (i + 1) ρ' fr' s' a' w' → Adv base (Own fr.fno) ρ s w ρ' s' w' → fr'.fno = fr.fno ∧ fr'.lc = fr.lc ∧ fr'.rc = fr.rc → K a' w')
    (hQ : ∀ v s' u w' ρ', (Ex.pan v, fr, s') ∈ outs → RV ρ' v u → RS G base (i + 1) ρ' fr s' a w' → Adv base (Own fr.fno) ρ s w ρ' s' w' → Q (.panic [{ v := u, recovered := false }]) a w') :
    UpY P fr.rc o a K Q ((execOp a.eval o).run P w) := by
  obtain ⟨hfresh, hkey, hown⟩ := rs.key hk
  have ownK : ∀ j, j < s.fc * KK → j = keyOf fr i → Own fr.fno j := fun j _ e => by rw [e]; exact hown
  have pureCase : ∀ v, (∃ u, (execOp a.eval o).run P w = .ok (.value u) w ∧ RV ρ v u) → putV fr o.dst s k (some v) = some outs → o.upon P a K Q ((execOp a.eval o).run P w) := by
    rintro v ⟨u, hu, ru⟩ hp
    obtain ⟨fr', hf, hkk⟩ := putK_spec hp
    rw [hu, Oper.upon_value]
    have hadv := Adv.refl (ok := fun j => j = keyOf fr i) rs.rm.rh rs.rm.hi
    obtain ⟨h1, h2⟩ := rs.next hadv hf ru
    exact hK fr' s _ w ρ outs hkk (fun _ h => h) h1 (hadv.mono ownK) h2
  unfold oneOp at h
  split at h
  · cases hp : pureOp P fr o.op with
    | none => rw [hp] at h; cases h
    | some v =>
      rw [hp] at h
      obtain ⟨u, hu, ru⟩ := pure_sound rs.rf hp
      exact .inl (pureCase v ⟨u, hu w, ru⟩ h)
  · cases hp : readOp P G fr s.h o.op with
    | none => rw [hp] at h; cases h
    | some v =>
      rw [hp] at h
      obtain ⟨u, hu, ru⟩ := read_sound rs.rm.rh rs.rm.rg rs.rf hp
      exact .inl (pureCase v ⟨u, hu, ru⟩ h)
  · unfold oneAlloc at h
    cases hp : newBlk P fr s.h (keyOf fr i) o.op with
    | none => rw [hp] at h; cases h
    | some q =>
      obtain ⟨v, b⟩ := q
      rw [hp] at h
      obtain ⟨fr', hf, hkk⟩ := putK_spec h
      obtain ⟨ρ', w', u, hu, hst, hρ, ru⟩ := newBlk_sound (s := s) rs.rm.rh hfresh rs.rm.bs rs.rf hp
      obtain ⟨u1, u2⟩ := upd_h s (keyOf fr i) b
      have hadv : Adv base (fun j => j = keyOf fr i) ρ s w ρ' (s.upd (keyOf fr i) b) w' := ⟨by rw [u1]; exact hst, by rw [u2]; exact Nat.le_refl _, fun j _ hn => hρ j hn, fun j hj => by
        rw [u2] at hj
        rw [hρ j (by omega)]; exact rs.rm.hi j hj⟩
      obtain ⟨h1, h2⟩ := rs.next hadv hf ru
      left
      rw [hu, Oper.upon_value]
      exact hK fr' _ _ w' ρ' outs hkk (fun _ h => h) h1 (hadv.mono ownK) h2
  · have heavyCase : ∀ l, heavy P call fr (keyOf fr i) s o.op = some l → putO fr o.dst k (some l) = some outs → o.upon P a K Q ((execOp a.eval o).run P w) := by
      intro l hl hp
      refine heavy_sound HC rs.rm rs.rf hfresh hkey hl ?_ ?_
      · intro v s' u w' ρ' hm hadv ru
        obtain ⟨o', h1, h2⟩ := outsTo_val hp hm
        obtain ⟨fr', hf, hkk⟩ := putK_spec h1
        obtain ⟨h3, h4⟩ := rs.next hadv hf ru
        exact hK fr' s' _ w' ρ' o' hkk h2 h3 (hadv.mono ownK) h4
      · intro v s' u w' ρ' hm hadv ru
        obtain ⟨h3, h4⟩ := rs.next (dst := none) (fr' := fr) (u := undef) hadv rfl (rv_undef _)
        exact hQ v s' u w' ρ' (outsTo_pan hp hm) ru h3 (hadv.mono ownK)
    unfold oneHeavy at h
    split at h
    · rename_i c hop
      cases hd : deferA fr c with
      | none => rw [hd] at h; cases h
      | some d =>
        rw [hd] at h
        obtain ⟨fr', hf, hkk⟩ := putK_spec h
        obtain ⟨dst, op, ty, pos, after, gd⟩ := o
        simp only at hop hf
        subst hop
        unfold deferA at hd
        split at hd
        · rename_i fo hc
          split at hd
          · rename_i g first captured as hfo has
            cases hd
            obtain ⟨f', c', r1, r2, hfv⟩ := rs.rf.ev hfo
            have ra := rs.rf.evs has
            have hrun : (execOp a.eval ⟨dst, .defer c, ty, pos, after, gd⟩).run P w = .ok (.defer { target := .fn (.func g) c'.toArray, args := (f' ++ c.args.toList.map a.eval).toArray }) w := by
              simp only [execOp, resolve, hc, hfv, Deferred.ofValue, Sem.run_bind, Sem.run_pure, Result.andThen_ok]
              have : f'.toArray ++ c.args.map a.eval = (f' ++ c.args.toList.map a.eval).toArray := by apply Array.toList_inj.1; simp
              rw [this]
            left
            rw [hrun, Oper.upon_defer]
            have hadv := Adv.refl (ok := fun j => j = keyOf fr i) rs.rm.rh rs.rm.hi
            have rs' : RS G base i ρ (fr.defer (.fn (.func g) first captured, as)) s { a with defers := { target := .fn (.func g) c'.toArray, args := (f' ++ c.args.toList.map a.eval).toArray } :: a.defers } w :=
              ⟨⟨rs.rf.size, rs.rf.tmp⟩, rs.rm, rs.lo, rs.fn, _, _, .inl ⟨g, first, captured, rfl, f', c', _, r1, r2, ra, rfl⟩, rs.df, rfl⟩
            obtain ⟨h1, h2⟩ := rs'.next (dst := dst) (u := undef) hadv hf (rv_undef _)
            exact hK fr' s _ w ρ outs hkk (fun _ h => h) h1 (hadv.mono ownK) h2
          · cases hd
        · cases hd
    · rename_i c hop
      unfold oneCall at h
      split at h
      · rename_i hc; exact absurd ⟨c, hop, hc⟩ hrec
      · cases hl : heavyCall P call fr (keyOf fr i) s c with
        | none =>
          rw [hl] at h
          simp only [orY] at h
          split at h
          · rename_i hrc
            cases hy : yieldT fr c with
            | none => rw [hy] at h; simp only [yieldTo, putO] at h; cases h
            | some q =>
              obtain ⟨kk, args⟩ := q
              rw [hy] at h
              simp only [yieldTo] at h
              cases hl2 : call.yl kk args s with
              | none => rw [hl2] at h; simp only [putO] at h; cases h
              | some l =>
                rw [hl2] at h
                right
                refine ⟨hrc, ?_⟩
                obtain ⟨dst, op, ty, pos, after, gd⟩ := o
                simp only at hop h
                subst hop
                obtain ⟨e, vs, he, rv, hrun⟩ := yieldT_sound (P := P) (dst := dst) (ty := ty) (pos := pos) (after := after) (gd := gd) (w := w) rs.rf hy
                rw [hrun]
                have hm := HC.yl kk args s l hl2 ρ w vs e rv rs.rm he
                refine hm.upon ?_ ?_ ?_
                · rintro u w' ⟨ρ', ⟨v, s', u', hin, he, ru, hadv⟩ | ⟨v, s', u', hin, he, ru, hadv⟩⟩
                  · cases he
                    have hadv := hadv.mono (ok' := fun j => j = keyOf fr i) fun _ _ h => h.elim
                    obtain ⟨o', h1, h2⟩ := outsTo_val h hin
                    obtain ⟨fr', hf, hkk⟩ := putK_spec h1
                    obtain ⟨h3, h4⟩ := rs.next hadv hf ru
                    exact hK fr' s' _ w' ρ' o' hkk h2 h3 (hadv.mono ownK) h4
                  · cases he
                · rintro ch w' ⟨ρ', ⟨v, s', u', hin, he, ru, hadv⟩ | ⟨v, s', u', hin, he, ru, hadv⟩⟩
                  · cases he
                  · cases he
                    have hadv := hadv.mono (ok' := fun j => j = keyOf fr i) fun _ _ h => h.elim
                    obtain ⟨h3, h4⟩ := rs.next (dst := none) (fr' := fr) (u := undef) hadv rfl (rv_undef _)
                    exact hQ v s' u' w' ρ' (outsTo_pan h hin) ru h3 (hadv.mono ownK)
                · rintro w' ⟨ρ', ⟨v, s', u', hin, he, _⟩ | ⟨v, s', u', hin, he, _⟩⟩ <;> cases he
          · cases h
        | some l =>
          rw [hl] at h
          exact .inl (heavyCase l (by rw [hop]; exact hl) h)
    · rename_i hnd hnc
      cases hl : actOp P fr s o.op with
      | none => rw [hl] at h; cases h
      | some l =>
        rw [hl] at h
        refine .inl (heavyCase l ?_ h)
        unfold heavy
        split
        · rename_i c hop; exact absurd hop (hnc c)
        · exact hl
end
end Go.Ai

namespace Go.Ai
open Go
variable {P : Program} {G : Glob} {base : Nat}

theorem bump_rs {n : Nat} {ρ : Map} {fr : Fr} {s : St} {a : Act} {w : World} (r : RS G base n ρ fr s a w) : RS G base 0 ρ (fr.bump n) s a w ∧ (fr.bump n).fno = fr.fno ∧ (fr.bump n).rc = fr.rc := by
  obtain ⟨fno, lc, m, t, df, rc⟩ := fr
  have e : Fr.bump ⟨fno, lc, m, t, df, rc⟩ n = ⟨fno, lc + n, m, t, df, rc⟩ := by simp [Fr.bump, natC_eq]
  rw [e]
  exact ⟨⟨⟨r.rf.size, r.rf.tmp⟩, r.rm, r.lo, r.fn, r.df⟩, rfl, rfl⟩

theorem drop_get {α : Type} {l : List α} {i : Nat} {x : α} {r : List α} (h : x :: r = l.drop i) : l[i]? = some x ∧ r = l.drop (i + 1) := by
  constructor
  · have : (l.drop i)[0]? = some x := by rw [← h]; rfl
    simpa using this
  · have : (l.drop i).drop 1 = r := by rw [← h]; rfl
    rw [← this, List.drop_drop]

theorem skip_rs {ρ : Map} {fr fr' : Fr} {s : St} {a : Act} {w : World} {i : Nat} {dst : Option Tmp} (rs : RS G base i ρ fr s a w) (hf : fr.put dst .undef = some fr') :
    RS G base (i + 1) ρ fr' s (a.put dst undef) w ∧ fr'.fno = fr.fno ∧ fr'.lc = fr.lc ∧ fr'.rc = fr.rc :=
  rs.next (Adv.refl rs.rm.rh rs.rm.hi) hf (rv_undef _)

theorem RS.over {n : Nat} {ρ : Map} {fr : Fr} {s : St} {a : Act} {w : World} (r : RS G base n ρ fr s a w) : RS G base KK ρ fr s a w :=
  ⟨r.rf, r.rm, fun i h1 h2 => by rw [succ_KK] at h2; omega, r.fn, r.df⟩

/-! ### with rounds -/
theorem upon_in {o : Oper} {a : Act} {K : Act → World → Prop} {Q : Exit → Act → World → Prop} {r : Result Next} (h : o.upon P a K Q r) : o.uponIn Fence.wide 0 P a K Q r := by
  have hd : Fence.wide.depth.isSome = true → 1 ≤ 0 := fun h => by simp [Fence.wide] at h
  unfold Oper.upon at h
  split at h
  · rw [Oper.uponIn_value]; exact h
  · rw [Oper.uponIn_skip]; exact h
  · rw [Oper.uponIn_defer]; exact h
  · rw [Oper.uponIn_enter]
    refine ⟨hd, callsIn_wide.2 (h.mono fun e w'' he => ?_)⟩
    cases e <;> exact he
  · rw [Oper.uponIn_row]
    refine ⟨hd, fun c cs _ => ?_⟩
    obtain ⟨v, w', hq, hs⟩ := h c cs
    exact ⟨v, w', hq, stepsIn_wide.2 hs⟩
  · rw [Oper.uponIn_panic]; exact h
  · exact h.elim
theorem upon_mono {o : Oper} {a : Act} {K K' : Act → World → Prop} {Q : Exit → Act → World → Prop} {r : Result Next} (h : o.upon P a K Q r) (hK : ∀ a w, K a w → K' a w) : o.upon P a K' Q r := by
  unfold Oper.upon at h
  split at h
  · rw [Oper.upon_value]; exact hK _ _ h
  · rw [Oper.upon_skip]; exact hK _ _ h
  · rw [Oper.upon_defer]; exact hK _ _ h
  · rw [Oper.upon_enter]
    refine h.mono fun e w'' he => ?_
    cases e
    · exact hK _ _ he
    · exact he
    · exact he
  · rw [Oper.upon_row]; exact h.mono fun v w'' he => hK _ _ he
  · rw [Oper.upon_panic]; exact h
  · exact h.elim
theorem UpY.all {rc : Rc} {o : Oper} {a : Act} {K : Act → World → Prop} {Q : Exit → Act → World → Prop} {r : Result Next} (h : UpY P rc o a K Q r) : o.uponIn Fence.wide 0 P a K Q r :=
  h.elim upon_in fun h => h.2
theorem UpY.plain {rc : Rc} {o : Oper} {a : Act} {K : Act → World → Prop} {Q : Exit → Act → World → Prop} {r : Result Next} (h : UpY P rc o a K Q r) (hn : rc ≠ .no) : o.upon P a K Q r :=
  h.elim id fun h => absurd h.1 hn

/-- the operations, in the text's order, in a frame that is no deferred one -/
theorem text_sound {call : CallF} (HC : CallOK P G base call) {ops : Array Oper} {cs : List Frame} {fno : Nat} {ρ0 : Map} {s0 : St} {w0 : World} {OUTS : List (Ex × Fr × St)} :
    ∀ (l : List Oper) (i : Nat) (fr : Fr) (s : St) (outs : List (Ex × Fr × St)), textOps P G call ops l i fr s = some outs → l = ops.toList.drop i → (∀ x ∈ outs, x ∈ OUTS) → fr.lc + ops.size < KK → fr.rc = .no → fr.fno = fno →
      ∀ (ρ : Map) (a : Act) (w : World), RS G base i ρ fr s a w → Adv base (Own fno) ρ0 s0 w0 ρ s w →
        wpOpsIn Fence.wide 0 P ops (fun e a' w' => Post G base cs fno .no ρ0 s0 w0 OUTS e a' cs w') (List.range' i l.length) a w
  | [], i, fr, s, outs, h, hl, hsub, hk, hrc, hfno, ρ, a, w, rs, hadv => by
    simp only [textOps, Option.some.injEq] at h
    subst h
    obtain ⟨h1, h2, h3⟩ := bump_rs rs
    refine ⟨.normal, fr.bump i, s, ρ, hsub _ (List.mem_singleton.2 rfl), rfl, h1, hadv, h2.trans hfno, ?_, ?_, fun _ => h3.trans hrc⟩
    · rw [h3, hrc]; rfl
    · intro b hb; rw [h3, hrc]; exact hb
  | o :: rest, i, fr, s, outs, h, hl, hsub, hk, hrc, hfno, ρ, a, w, rs, hadv => by
    obtain ⟨hget, hrest⟩ := drop_get hl
    have hget' : ops[i]? = some o := by simpa using hget
    have hi : i < ops.size := (Array.getElem?_eq_some_iff.1 hget').1
    rw [List.length_cons, List.range'_succ, wpOpsIn]
    simp only [hget']
    rw [wantedA_sound rs.rf ops o]
    simp only [textOps] at h
    split at h
    · rename_i hw
      rw [hw]
      simp only [Bool.false_eq_true, if_false]
      refine ⟨fun _ _ => trivial, ?_⟩
      obtain ⟨fr', hf, hkk⟩ := putK_spec h
      obtain ⟨h1, h2, h3, h4⟩ := skip_rs rs hf
      exact text_sound HC rest (i + 1) fr' s outs hkk hrest hsub (by omega) (h4.trans hrc) (h2.trans hfno) ρ _ w h1 hadv
    · rename_i hw
      rw [hw]
      simp only [if_true]
      refine ⟨fun _ _ => trivial, ?_⟩
      have hrec : ¬ isRec o.op := by
        rintro ⟨c, hop, hc⟩
        simp only [oneOp, hop, clsOf, clsCall, hc, oneHeavy, oneCall, hrc, doRecover] at h
        cases h
      have hsem : o.semAt Fence.wide.round a.eval = execOp a.eval o := rfl
      rw [hsem]
      refine (op_upon HC hrec rs (by omega) h ?_ ?_).all
      · intro fr' s' a' w' ρ' o' hko hsub' rs' hadv' ⟨h1, h2, h3⟩
        rw [hfno] at hadv'
        exact text_sound HC rest (i + 1) fr' s' o' hko hrest (fun x hx => hsub x (hsub' x hx)) (by omega) (h3.trans hrc) (h1.trans hfno) ρ' a' w' rs' (hadv.trans hadv')
      · intro v s' u w' ρ' hm ru rs' hadv'
        rw [hfno] at hadv'
        exact ⟨.pan v, fr, s', ρ', hsub _ hm, ⟨u, ru, rfl⟩, rs'.over, hadv.trans hadv', hfno, by rw [hrc]; rfl, fun b hb => by rw [hrc]; exact hb, fun _ => hrc⟩

/-- the same in a deferred frame: 'recover' is called there -/
theorem text_soundS {call : CallF} (HC : CallOK P G base call) {ops : Array Oper} {cs0 : List Frame} {fno : Nat} {rc : Rc} {ρ0 : Map} {s0 : St} {w0 : World} {OUTS : List (Ex × Fr × St)} :
    ∀ (l : List Oper) (i : Nat) (fr : Fr) (s : St) (outs : List (Ex × Fr × St)), textOps P G call ops l i fr s = some outs → l = ops.toList.drop i → (∀ x ∈ outs, x ∈ OUTS) → fr.lc + ops.size < KK → fr.fno = fno → fr.rc ≠ .no → (rc = .no → fr.rc = .no) → 
      ∀ (ρ : Map) (a : Act) (cs : List Frame) (w : World), RS G base i ρ fr s a w → Adv base (Own fno) ρ0 s0 w0 ρ s w → RCx ρ fr.rc cs0 cs →
        wpOpsS P ops (fun e a' cs' w' => Post G base cs0 fno rc ρ0 s0 w0 OUTS e a' cs' w') (List.range' i l.length) a cs w
  | [], i, fr, s, outs, h, hl, hsub, hk, hfno, hnn, hno, ρ, a, cs, w, rs, hadv, hcs => by
    simp only [textOps, Option.some.injEq] at h
    subst h
    obtain ⟨h1, h2, h3⟩ := bump_rs rs
    refine ⟨.normal, fr.bump i, s, ρ, hsub _ (List.mem_singleton.2 rfl), rfl, h1, hadv, h2.trans hfno, ?_, ?_, fun h => h3.trans (hno h)⟩
    · rw [h3]; exact hcs
    · intro b hb; rw [h3]
      have : rc ≠ .no := fun h => hnn (hno h)
      cases rc <;> cases hq : fr.rc <;> simp_all [FrOK]
  | o :: rest, i, fr, s, outs, h, hl, hsub, hk, hfno, hnn, hno, ρ, a, cs, w, rs, hadv, hcs => by
    obtain ⟨hget, hrest⟩ := drop_get hl
    have hget' : ops[i]? = some o := by simpa using hget
    have hi : i < ops.size := (Array.getElem?_eq_some_iff.1 hget').1
    rw [List.length_cons, List.range'_succ, wpOpsS]
    simp only [hget']
    rw [wantedA_sound rs.rf ops o]
    simp only [textOps] at h
    split at h
    · rename_i hw
      rw [hw]
      simp only [Bool.false_eq_true, if_false]
      obtain ⟨fr', hf, hkk⟩ := putK_spec h
      obtain ⟨h1, h2, h3, h4⟩ := skip_rs rs hf
      exact text_soundS HC rest (i + 1) fr' s outs hkk hrest hsub (by omega) (h2.trans hfno) (by rw [h4]; exact hnn) (by rw [h4]; exact hno) ρ _ cs w h1 hadv (by rw [h4]; exact hcs)
    · rename_i hw
      rw [hw]
      simp only [if_true]
      by_cases hrec : isRec o.op
      · obtain ⟨c, hop, hc⟩ := hrec
        have hrun : (execOp a.eval o).run P w = .ok .recover w := by
          obtain ⟨dst, op, ty, pos, after, gd⟩ := o
          simp only at hop
          subst hop
          rw [exec_builtin hc]
          rfl
        rw [hrun]
        simp only
        simp only [oneOp, hop, clsOf, clsCall, hc, oneHeavy, oneCall, doRecover] at h
        split at h
        · rename_i v hrc
          obtain ⟨fr', hf, hkk⟩ := putK_spec h
          rw [hrc] at hcs
          obtain ⟨c0, rest0, u, hcs0, ru, hcs1⟩ := hcs
          subst hcs1
          have hR : recoverD ({ c0 with mode := .panicking [{ v := u, recovered := false }] } :: rest0) = some (u, { c0 with mode := .panicking [{ v := u, recovered := true }] } :: rest0) := rfl
          rw [hR]
          simp only
          have rs' : RS G base i ρ (fr.recovers v) s a w := ⟨⟨rs.rf.size, rs.rf.tmp⟩, rs.rm, rs.lo, rs.fn, rs.df⟩
          obtain ⟨h1, h2, h3, h4⟩ := rs'.next (Adv.refl rs.rm.rh rs.rm.hi) hf ru
          have h4' : fr'.rc = .live v true := h4
          exact text_soundS HC rest (i + 1) fr' s outs hkk hrest hsub (by rw [h3]; exact hk) (h2.trans hfno) (by rw [h4']; simp) (fun h => by have := hno h; rw [hrc] at this; cases this) ρ _ _ w h1 hadv (by rw [h4']; exact ⟨c0, rest0, u, hcs0, ru, rfl⟩)
        · cases h
        · rename_i hnlive hnno
          obtain ⟨fr', hf, hkk⟩ := putK_spec h
          have hR : recoverD cs = none := by
            cases hq : fr.rc with
            | no => exact absurd hq hnn
            | idle =>
              rw [hq] at hcs
              obtain ⟨h1, c0, rest0, h2, h3⟩ := hcs
              subst h1 h2
              simp only [recoverD, h3]
            | live v d =>
              cases d with
              | false => exact absurd hq (hnlive v)
              | true =>
                rw [hq] at hcs
                obtain ⟨c0, rest0, u, hcs0, ru, hcs1⟩ := hcs
                subst hcs1
                rfl
          rw [hR]
          simp only
          obtain ⟨h1, h2, h3, h4⟩ := rs.next (v := .nili) (u := .nilIface) (Adv.refl rs.rm.rh rs.rm.hi) hf rfl
          exact text_soundS HC rest (i + 1) fr' s outs hkk hrest hsub (by rw [h3]; exact hk) (h2.trans hfno) (by rw [h4]; exact hnn) (by rw [h4]; exact hno) ρ _ cs w h1 hadv (by rw [h4]; exact hcs)
      · have hmain := op_upon (Q := fun e a' w' => Post G base cs0 fno rc ρ0 s0 w0 OUTS e a' cs w') HC hrec rs (by omega) h (K := fun a' w' => wpOpsS P ops (fun e a' cs' w' => Post G base cs0 fno rc ρ0 s0 w0 OUTS e a' cs' w') (List.range' (i + 1) rest.length) a' cs w') ?_ ?_
        · have hmain := hmain.plain hnn
          split
          · rename_i w' hr
            rw [hr] at hmain
            exact hmain.elim
          · exact hmain
        · intro fr' s' a' w' ρ' o' hko hsub' rs' hadv' ⟨h1, h2, h3⟩
          rw [hfno] at hadv'
          exact text_soundS HC rest (i + 1) fr' s' o' hko hrest (fun x hx => hsub x (hsub' x hx)) (by omega) (h1.trans hfno) (by rw [h3]; exact hnn) (by rw [h3]; exact hno) ρ' a' cs w' rs' (hadv.trans hadv') (by rw [h3]; exact hcs.mono hadv'.st.mono)
        · intro v s' u w' ρ' hm ru rs' hadv'
          rw [hfno] at hadv'
          refine ⟨.pan v, fr, s', ρ', hsub _ hm, ⟨u, ru, rfl⟩, rs'.over, hadv.trans hadv', hfno, hcs.mono hadv'.st.mono, fun b hb => ?_, hno⟩
          have : rc ≠ .no := fun h => hnn (hno h)
          cases rc <;> cases hq : fr.rc <;> simp_all [FrOK]

/-! ### the operations of a round -/
theorem okOps_mem : ∀ {l : List Oper}, okOps l = true → ∀ o ∈ l, ∀ c, o.op ≠ .defer c
  | [], _, o, h, _ => by cases h
  | x :: xs, h, o, hm, c => by
    simp only [okOps] at h
    split at h
    · rename_i hx
      rcases List.mem_cons.1 hm with e | e
      · subst e
        intro hop
        simp [okOp, hop] at hx
      · exact okOps_mem h o e c
    · cases h
theorem uponIn_round {r : Nat} {o : Oper} {a : Act} {K K' : Act → World → Prop} {Q : Exit → Act → World → Prop} {x : Result Next} (h : o.uponIn Fence.wide 0 P a K Q x) (hK : ∀ a w, K a w → K' a w) : o.uponIn (Fence.wide.inRound r) 0 P a K' Q x := by
  unfold Oper.uponIn at h
  split at h
  · rw [Oper.uponIn_value]; exact hK _ _ h
  · rw [Oper.uponIn_skip]; exact hK _ _ h
  · rw [Oper.uponIn_defer]; exact hK _ _ h
  · rw [Oper.uponIn_enter]
    refine ⟨h.1, CallsIn.mono (F := Fence.wide.inRound r) h.2 fun e w'' he => ?_⟩
    cases e
    · exact hK _ _ he
    · exact he
    · exact he
  · rw [Oper.uponIn_row]
    exact ⟨h.1, RowsIn.mono (F := Fence.wide.inRound r) h.2 fun v w'' he => hK _ _ he⟩
  · rw [Oper.uponIn_round]
    refine ⟨h.1, RoundIn.mono (F := Fence.wide.inRound r) h.2 fun e w'' he => ?_⟩
    cases e
    · exact hK _ _ he
    · exact he
    · exact he
  · rw [Oper.uponIn_panic]; exact h
  · exact h.elim
theorem ops_round {r : Nat} {ops : Array Oper} {Q : Exit → Act → World → Prop} (hok : okOps ops.toList = true) : ∀ (l : List Nat) (a : Act) (w : World), wpOpsIn Fence.wide 0 P ops Q l a w → wpOpsIn (Fence.wide.inRound r) 0 P ops Q l a w
  | [], _, _, h => h
  | i :: rest, a, w, h => by
    simp only [wpOpsIn] at h ⊢
    cases ho : ops[i]? with
    | none => rw [ho] at h; exact ops_round hok rest a w h
    | some o =>
      rw [ho] at h
      simp only at h ⊢
      have hd : ∀ c, o.op ≠ .defer c := okOps_mem hok o (by
        have := Array.mem_of_getElem? ho
        exact Array.mem_toList_iff.2 this)
      split at h
      · rename_i hw
        rw [if_pos hw]
        obtain ⟨h1, h2⟩ := h
        refine ⟨fun _ _ => trivial, ?_⟩
        rw [Oper.semAt_eq _ _ _ hd] at h2 ⊢
        exact uponIn_round h2 fun a w hh => ops_round hok rest a w hh
      · rename_i hw
        rw [if_neg hw]
        exact ⟨fun _ _ => trivial, ops_round hok rest _ w h.2⟩
theorem ops_wide {ops : Array Oper} {Q : Exit → Act → World → Prop} (hQ : ∀ a w, ¬ Q .outgrown a w) : ∀ (l : List Nat) (a : Act) (w : World), wpOps P ops Q l a w → wpOpsIn Fence.wide 0 P ops Q l a w
  | [], _, _, h => h
  | i :: rest, a, w, h => by
    simp only [wpOps] at h
    simp only [wpOpsIn]
    cases ho : ops[i]? with
    | none => rw [ho] at h; exact ops_wide hQ rest a w h
    | some o =>
      rw [ho] at h
      simp only at h ⊢
      split at h
      · rename_i hw
        rw [if_pos hw]
        refine ⟨fun _ _ => trivial, ?_⟩
        have hsem : o.semAt Fence.wide.round a.eval = execOp a.eval o := rfl
        rw [hsem]
        rcases h with h | ⟨_, a', w', h⟩
        · refine upon_in ?_
          unfold Oper.wp at h
          refine upon_mono h fun a w hh => ops_wide hQ rest a w hh
        · exact absurd h (hQ a' w')
      · rename_i hw
        rw [if_neg hw]
        exact ⟨fun _ _ => trivial, ops_wide hQ rest _ w h⟩
end Go.Ai

namespace Go.Ai
open Go

/-! ### numbers as sets -/
theorem covers_spec {a b : Nat} (h : covers a b = true) {j : Nat} (hb : b.testBit j = true) : a.testBit j = true := by
  have h := Nat.eq_of_beq_eq_true h
  have : (a &&& b).testBit j = b.testBit j := congrArg (fun x => Nat.testBit x j) h
  rw [Nat.testBit_and, hb, Bool.and_true] at this
  exact this
theorem lor_spec (a i j : Nat) : (Nat.lor a (2 ^ i)).testBit j = (a.testBit j || decide (i = j)) := by
  show (a ||| 2 ^ i).testBit j = _
  rw [Nat.testBit_or, Nat.testBit_two_pow]

theorem clsHeavy_iff (o : Oper) : isHeavy o = true ↔ clsOf o.op = .heavy := by
  unfold isHeavy
  split <;> simp_all

/-! ### who stands ahead -/
theorem predsOf_spec (acc : List Nat) : ∀ (es : List Edge) (s j : Nat), (predsOf acc es s).testBit j = true ↔ (s.testBit j = true ∨ ∃ e ∈ es, Region.binds .any e = true ∧ (e.on = j ∨ (acc.getD e.on 0).testBit j = true))
  | [], s, j => by simp [predsOf]
  | e :: es, s, j => by
    rw [predsOf, predsOf_spec acc es]
    cases hb : Region.binds .any e with
    | false => simp [hb]
    | true =>
      simp only
      rw [Nat.testBit_or, Nat.testBit_or, Nat.testBit_two_pow]
      simp only [Bool.or_eq_true, decide_eq_true_eq, List.mem_cons, exists_eq_or_imp, hb, true_and]
      constructor
      · rintro (((h | h) | h) | h)
        · exact .inl h
        · exact .inr (.inl (.inl h))
        · exact .inr (.inl (.inr h))
        · exact .inr (.inr h)
      · rintro (h | (h | h) | h)
        · exact .inl (.inl (.inl h))
        · exact .inl (.inl (.inr h))
        · exact .inl (.inr h)
        · exact .inr h

theorem befores_prefix : ∀ (ops : List Oper) (acc : List Nat), ∃ r, befores ops acc = acc ++ r ∧ r.length = ops.length
  | [], acc => ⟨[], by simp [befores], rfl⟩
  | o :: os, acc => by
    obtain ⟨r, h1, h2⟩ := befores_prefix os (acc ++ [predsOf acc o.after.toList 0])
    exact ⟨predsOf acc o.after.toList 0 :: r, by simp [befores, h1], by simp [h2]⟩

theorem befores_spec : ∀ (ops : List Oper) (acc : List Nat) (i : Nat) (o : Oper), ops[i]? = some o →
    (befores ops acc)[acc.length + i]? = some (predsOf ((befores ops acc).take (acc.length + i)) o.after.toList 0)
  | [], acc, i, o, h => by simp at h
  | o' :: os, acc, 0, o, h => by
    simp at h; subst h
    obtain ⟨r, h1, _⟩ := befores_prefix os (acc ++ [predsOf acc o'.after.toList 0])
    rw [befores, h1]
    simp
  | o' :: os, acc, i + 1, o, h => by
    have := befores_spec os (acc ++ [predsOf acc o'.after.toList 0]) i o (by simpa using h)
    rw [befores]
    simp only [List.length_append, List.length_singleton] at this
    rw [show acc.length + (i + 1) = acc.length + 1 + i by omega]
    exact this

structure Bef (ops : Array Oper) (bs : List Nat) : Prop where
  len : bs.length = ops.size
  spec : ∀ (i b : Nat) (o : Oper), ops[i]? = some o → bs[i]? = some b → ∀ j, b.testBit j = true ↔ ∃ e ∈ o.after.toList, Region.binds .any e = true ∧ (e.on = j ∨ (e.on < i ∧ ∃ b', bs[e.on]? = some b' ∧ b'.testBit j = true))

theorem bef_befores (ops : Array Oper) : Bef ops (befores ops.toList []) := by
  obtain ⟨r, h1, h2⟩ := befores_prefix ops.toList []
  refine ⟨by rw [h1]; simp [h2], fun i b o ho hb j => ?_⟩
  have := befores_spec ops.toList [] i o (by simpa using ho)
  simp only [List.length_nil, Nat.zero_add] at this
  rw [hb] at this
  cases this
  rw [predsOf_spec]
  simp only [Nat.zero_testBit, Bool.false_eq_true, false_or]
  have key : ∀ e : Edge, ((((befores ops.toList []).take i).getD e.on 0).testBit j = true) ↔ (e.on < i ∧ ∃ b', (befores ops.toList [])[e.on]? = some b' ∧ b'.testBit j = true) := by
    intro e
    rw [List.getD_eq_getElem?_getD, List.getElem?_take]
    by_cases hlt : e.on < i
    · rw [if_pos hlt]
      cases hg : (befores ops.toList [])[e.on]? with
      | none => simp
      | some b' => simp [hlt]
    · rw [if_neg hlt]
      simp [hlt]
  simp only [key]

/-- what is listed is closed -/
def Closed (ops : Array Oper) (L : Nat → Prop) : Prop := ∀ i o, L i → ops[i]? = some o → ∀ e ∈ o.after.toList, Region.binds .any e = true → L e.on
theorem Bef.sub {ops : Array Oper} {bs : List Nat} (hB : Bef ops bs) {L : Nat → Prop} (hL : Closed ops L) : ∀ (i b : Nat) (o : Oper), ops[i]? = some o → bs[i]? = some b → (∀ e ∈ o.after.toList, Region.binds .any e = true → L e.on) → ∀ j, b.testBit j = true → L j := by
  intro i
  induction i using Nat.strongRecOn with
  | _ i ih =>
    intro b o ho hb hed j hj
    obtain ⟨e, he, hbi, h | ⟨hlt, b', hb', hj'⟩⟩ := (hB.spec i b o ho hb j).1 hj
    · subst h; exact hed e he hbi
    · have hle := hed e he hbi
      have hsz : e.on < ops.size := by rw [← hB.len]; exact (List.getElem?_eq_some_iff.1 hb').1
      have ho' : ops[e.on]? = some ops[e.on] := by simp [hsz]
      exact ih e.on hlt b' _ ho' hb' (fun e' he' hbi' => hL e.on _ hle ho' e' he' hbi') j hj'

/-! ### the order -/
theorem pickE_mem (k : Nat) (hv : Bool) : ∀ {l : List DE} {x : DE}, x ∈ pickE k hv l → x ∈ l
  | [], x, h => by simp [pickE] at h
  | (i, b, st, o) :: r, x, h => by
    simp only [pickE] at h
    split at h
    · rcases List.mem_cons.1 h with e | e
      · rw [e]; exact List.mem_cons_self
      · exact List.mem_cons_of_mem _ (pickE_mem k _ e)
    · rcases List.mem_cons.1 h with e | e
      · rw [e]; exact List.mem_cons_self
      · exact List.mem_cons_of_mem _ (pickE_mem k _ e)
    · exact List.mem_cons_of_mem _ (pickE_mem k _ h)
theorem stages_mem {es : List DE} : ∀ {n k : Nat} {x : DE}, x ∈ stages es n k → x ∈ es
  | 0, _, x, h => by simp [stages] at h
  | n + 1, k, x, h => by
    simp only [stages, List.mem_append] at h
    rcases h with h | h | h
    · exact pickE_mem _ _ h
    · exact pickE_mem _ _ h
    · exact stages_mem h
theorem entsOf_mem {hs : List Nat} : ∀ {ops : List Oper} {bs : List Nat} {i : Nat} {x : DE}, x ∈ entsOf hs i ops bs → i ≤ x.1 ∧ ops[x.1 - i]? = some x.2.2.2 ∧ bs[x.1 - i]? = some x.2.1
  | [], bs, i, x, h => by cases bs <;> simp [entsOf] at h
  | o :: os, [], i, x, h => by simp [entsOf] at h
  | o :: os, b :: bs, i, x, h => by
    simp only [entsOf] at h
    rcases List.mem_cons.1 h with e | e
    · rw [e]; simp
    · obtain ⟨h1, h2, h3⟩ := entsOf_mem e
      simp only [Nat.succ_eq_add_one] at h1 h2 h3
      refine ⟨by omega, ?_, ?_⟩
      · rw [show x.1 - i = (x.1 - (i + 1)) + 1 by omega]; simpa using h2
      · rw [show x.1 - i = (x.1 - (i + 1)) + 1 by omega]; simpa using h3
theorem orderOf_mem {ops : Array Oper} {x : DE} (h : x ∈ orderOf ops.toList) : ops[x.1]? = some x.2.2.2 ∧ (befores ops.toList [])[x.1]? = some x.2.1 := by
  have := stages_mem h
  obtain ⟨_, h2, h3⟩ := entsOf_mem this
  exact ⟨by simpa using h2, by simpa using h3⟩

theorem theOrder_mem {ops : Array Oper} {x : DE} (h : x ∈ theOrder ops.toList) : ops[x.1]? = some x.2.2.2 ∧ (befores ops.toList [])[x.1]? = some x.2.1 := by
  unfold theOrder at h
  have tx : x ∈ textOrder ops.toList → ops[x.1]? = some x.2.2.2 ∧ (befores ops.toList [])[x.1]? = some x.2.1 := fun h => by
    obtain ⟨_, h2, h3⟩ := entsOf_mem h
    exact ⟨by simpa using h2, by simpa using h3⟩
  split at h
  · split at h
    · exact tx h
    · exact orderOf_mem h
  · exact orderOf_mem h

/-! ### the names -/
structure NamesOk (ops : Array Oper) (bs : List Nat) : Prop where
  names : ∀ (i b : Nat) (o : Oper), ops[i]? = some o → bs[i]? = some b → ∀ (j b' : Nat) (o' : Oper), ops[j]? = some o' → bs[j]? = some b' → hasTmp o'.dst (namesOf ops.toList o) = true → b.testBit j = true ∨ (isBar o' = true ∧ b'.testBit i = true)
  dsts : ∀ (i : Nat) (o : Oper), ops[i]? = some o → ∀ (j b' : Nat) (o' : Oper), ops[j]? = some o' → bs[j]? = some b' → i < j → sameDst o.dst o'.dst = true → b'.testBit i = true ∧ (isBar o = true ∨ isBar o' = true)

theorem namesOk_spec {i b : Nat} {names : List Nat} : ∀ {os : List Oper} {bs : List Nat} {j : Nat}, namesOk i b names j os bs = true → ∀ (k b' : Nat) (o' : Oper), os[k]? = some o' → bs[k]? = some b' → hasTmp o'.dst names = true → b.testBit (j + k) = true ∨ (isBar o' = true ∧ b'.testBit i = true)
  | [], _, _, _, k, b', o', h1, _, _ => by simp at h1
  | o :: os, [], _, h, k, b', o', h1, h2, _ => by simp at h2
  | o :: os, b0 :: bs, j, h, k, b', o', h1, h2, h3 => by
    simp only [namesOk] at h
    cases k with
    | zero =>
      simp at h1 h2
      subst h1 h2
      simp only [h3] at h
      cases hb : b.testBit j with
      | true => exact .inl (by simp)
      | false =>
        simp only [hb] at h
        split at h
        · rename_i e1 e2; exact .inr ⟨e1, e2⟩
        · cases h
    | succ k =>
      have hrest : namesOk i b names (Nat.succ j) os bs = true := by
        split at h
        · split at h
          · exact h
          · cases h
        · exact h
      have := namesOk_spec hrest k b' o' (by simpa using h1) (by simpa using h2) h3
      rw [show j + (k + 1) = Nat.succ j + k by omega]
      exact this
theorem newName_spec {i : Nat} {bar : Bool} {d : Option Tmp} : ∀ {os : List Oper} {bs : List Nat}, newName i bar d os bs = true → ∀ (k b' : Nat) (o' : Oper), os[k]? = some o' → bs[k]? = some b' → sameDst d o'.dst = true → b'.testBit i = true ∧ (bar = true ∨ isBar o' = true)
  | [], _, _, k, b', o', h1, _, _ => by simp at h1
  | o :: os, [], _, k, b', o', _, h2, _ => by simp at h2
  | o :: os, b0 :: bs, h, k, b', o', h1, h2, h3 => by
    simp only [newName] at h
    cases k with
    | zero =>
      simp at h1 h2
      subst h1 h2
      simp only [h3] at h
      split at h
      · rename_i e1 e2; exact ⟨e1, .inr e2⟩
      · rename_i e1; exact ⟨e1, .inl rfl⟩
      · cases h
    | succ k =>
      have hrest : newName i bar d os bs = true := by
        split at h
        · split at h
          · exact h
          · exact h
          · cases h
        · exact h
      exact newName_spec hrest k b' o' (by simpa using h1) (by simpa using h2) h3
theorem namesAll_spec {ops : List Oper} {bs : List Nat} : ∀ {os : List Oper} {bs' : List Nat} {i : Nat}, namesAll ops bs i os bs' = true → ∀ (k b : Nat) (o : Oper), os[k]? = some o → bs'[k]? = some b →
    namesOk (i + k) b (namesOf ops o) 0 ops bs = true ∧ newName (i + k) (isBar o) o.dst (os.drop (k + 1)) (bs'.drop (k + 1)) = true
  | [], _, _, _, k, b, o, h1, _ => by simp at h1
  | o :: os, [], _, h, k, b', o', h1, h2 => by simp at h2
  | o :: os, b0 :: bs', i, h, k, b, o', h1, h2 => by
    simp only [namesAll] at h
    split at h
    · rename_i e1 e2
      cases k with
      | zero =>
        simp at h1 h2
        subst h1 h2
        exact ⟨e1, e2⟩
      | succ k =>
        have := namesAll_spec h k b o' (by simpa using h1) (by simpa using h2)
        rw [show i + (k + 1) = Nat.succ i + k by omega]
        exact this
    · cases h
theorem namesAll_ok {ops : Array Oper} {bs : List Nat} (hlen : bs.length = ops.size) (h : namesAll ops.toList bs 0 ops.toList bs = true) : NamesOk ops bs := by
  refine ⟨fun i b o ho hb j b' o' ho' hb' hh => ?_, fun i o ho j b' o' ho' hb' hij hs => ?_⟩
  · obtain ⟨h1, _⟩ := namesAll_spec h i b o (by simpa using ho) hb
    have := namesOk_spec h1 j b' o' (by simpa using ho') hb' hh
    simpa using this
  · have hi : i < bs.length := by rw [hlen]; exact (Array.getElem?_eq_some_iff.1 ho).1
    obtain ⟨_, h2⟩ := namesAll_spec h i bs[i] o (by simpa using ho) (by simp [hi])
    have := newName_spec h2 (j - (i + 1)) b' o' (by rw [List.getElem?_drop, show i + 1 + (j - (i + 1)) = j by omega]; simpa using ho') (by rw [List.getElem?_drop, show i + 1 + (j - (i + 1)) = j by omega]; exact hb') hs
    simpa using this
end Go.Ai

namespace Go.Ai
open Go
variable {P : Program} {G : Glob} {base : Nat}

/-! ### blocks set aside -/
noncomputable def addP (p : Nat → Bool) (h : Heap) : Made → Heap
  | [] => h
  | (j, k, blk) :: r => match p j with
    | true => match hget h k with
      | none => addP p (hset h k blk) r
      | some _ => addP p h r
    | false => addP p h r
theorem addMade_eq (b : Nat) : ∀ (m : Made) (h : Heap), addMade b h m = addP (fun j => b.testBit j) h m
  | [], h => rfl
  | (j, k, blk) :: r, h => by
    simp only [addMade, addP]
    cases b.testBit j with
    | true =>
      simp only
      cases hget h k with
      | none => simp only [hsetC_eq]; exact addMade_eq b r _
      | some _ => exact addMade_eq b r h
    | false => exact addMade_eq b r h
theorem addAll_eq : ∀ (m : Made) (h : Heap), addAll h m = addP (fun _ => true) h m
  | [], h => rfl
  | (j, k, blk) :: r, h => by
    simp only [addAll, addP]
    cases hget h k with
    | none => simp only [hsetC_eq]; exact addAll_eq r _
    | some _ => exact addAll_eq r h
def lookM (p : Nat → Bool) (i : Nat) : Made → Option AB
  | [] => none
  | (j, k, blk) :: r => if i = k ∧ p j = true then some blk else lookM p i r
theorem addP_get (p : Nat → Bool) (i : Nat) : ∀ (m : Made) (h : Heap), hget (addP p h m) i = (hget h i).or (lookM p i m)
  | [], h => by simp [addP, lookM]
  | (j, k, blk) :: r, h => by
    simp only [addP, lookM]
    cases hp : p j with
    | false => simp only [Bool.false_eq_true, and_false, if_false]; exact addP_get p i r h
    | true =>
      simp only [and_true]
      cases hk : hget h k with
      | none =>
        simp only
        rw [addP_get p i r, hget_hset]
        by_cases e : i = k
        · subst e; simp [hk]
        · simp [e]
      | some x =>
        simp only
        rw [addP_get p i r]
        by_cases e : i = k
        · subst e; simp [hk]
        · simp [e]
theorem lookM_some {p : Nat → Bool} {i : Nat} {blk : AB} : ∀ {m : Made}, lookM p i m = some blk → ∃ j, (j, i, blk) ∈ m ∧ p j = true
  | [], h => by simp [lookM] at h
  | (j, k, b) :: r, h => by
    simp only [lookM] at h
    split at h
    · rename_i hc; cases h; obtain ⟨h1, h2⟩ := hc; subst h1; exact ⟨j, List.mem_cons_self, h2⟩
    · obtain ⟨j', h1, h2⟩ := lookM_some h; exact ⟨j', List.mem_cons_of_mem _ h1, h2⟩
theorem lookM_none {p : Nat → Bool} {i : Nat} : ∀ {m : Made}, lookM p i m = none → ∀ j blk, (j, i, blk) ∈ m → p j = false
  | [], _, j, blk, hm => by cases hm
  | (j0, k, b) :: r, h, j, blk, hm => by
    simp only [lookM] at h
    split at h
    · cases h
    · rename_i hc
      rcases List.mem_cons.1 hm with e | e
      · cases e
        cases hp : p j0 with
        | false => rfl
        | true => exact absurd ⟨rfl, hp⟩ hc
      · exact lookM_none h j blk e
/-- what is set aside: one block for each operation -/
def MadeOK (fr : Fr) (done : Nat) (m : Made) : Prop :=
  (∀ j k blk, (j, k, blk) ∈ m → k = keyOf fr j ∧ done.testBit j = true) ∧ (∀ j k blk k' blk', (j, k, blk) ∈ m → (j, k', blk') ∈ m → blk = blk')
theorem key_inj {fr : Fr} {i j : Nat} (h : keyOf fr i = keyOf fr j) : i = j := by
  rw [key_eq, key_eq] at h; omega
theorem MadeOK.look {fr : Fr} {done : Nat} {m : Made} (h : MadeOK fr done m) {p : Nat → Bool} {j k : Nat} {blk : AB} (hm : (j, k, blk) ∈ m) (hp : p j = true) : lookM p k m = some blk := by
  cases hl : lookM p k m with
  | none => have := lookM_none hl j blk hm; rw [hp] at this; cases this
  | some b =>
    obtain ⟨j', h1, h2⟩ := lookM_some hl
    have e1 := (h.1 _ _ _ hm).1
    have e2 := (h.1 _ _ _ h1).1
    have := key_inj (e1.symm.trans e2)
    subst this
    rw [h.2 _ _ _ _ _ hm h1]
theorem MadeOK.sub {fr : Fr} {done : Nat} {m : Made} (h : MadeOK fr done m) {p q : Nat → Bool} (hpq : ∀ j, p j = true → q j = true) {hp : Heap} {i : Nat} {ab : AB} (hg : hget (addP p hp m) i = some ab) : hget (addP q hp m) i = some ab := by
  rw [addP_get] at hg ⊢
  cases hh : hget hp i with
  | some x => rw [hh] at hg; simpa using hg
  | none =>
    rw [hh] at hg
    simp only [Option.none_or] at hg ⊢
    obtain ⟨j, h1, h2⟩ := lookM_some hg
    exact h.look h1 (hpq j h2)

/-- a step in a part of the memory is a step in all of it -/
theorem Stp.frame {ρ ρ' : Map} {w w' : World} {g1 gL g' gL' : GetF} (hr : RH ρ base gL w) (hsub : ∀ i ab, g1 i = some ab → gL i = some ab) (h : Stp ρ base g1 w ρ' g' w')
    (hs : ∀ i ab, gL' i = some ab → ab ≠ .dead → g' i = some ab ∨ (g1 i = none ∧ gL i = some ab)) : Stp ρ base gL w ρ' gL' w' := by
  have hown : ∀ b, owns ρ g1 b → owns ρ gL b := by
    rintro b ⟨i, e, ⟨ab, hg, hd⟩, he, hb⟩
    exact ⟨i, e, ⟨ab, hsub _ _ hg, hd⟩, he, hb⟩
  have low : ∀ b, owns ρ gL b → base ≤ b := owns_base hr
  -- a block aside
  have aside : ∀ i ab, g1 i = none → gL i = some ab → ab ≠ .dead → ∃ e ob, ρ i = some e ∧ At base ab e.b ∧ w'.heap[e.b]? = some ob ∧ RB ρ e ab ob ∧ ¬ owns ρ g1 e.b ∧ e.b < w.heap.size := by
    intro i ab h1 h2 hd
    obtain ⟨e, ob, he, hb, hw, rb⟩ := hr.blk i ab h2 hd
    have hlt := hr.size h2 hd he
    have hno : ¬ owns ρ g1 e.b := by
      rintro ⟨k, e', ⟨ab', hg, hd'⟩, he', hbb⟩
      rcases hb.rom_or hd with m | m
      · have := hr.inj k i e' e ⟨ab', hsub _ _ hg, hd'⟩ ⟨ab, h2, m⟩ he' he hbb
        subst this
        rw [h1] at hg; cases hg
      · have := low e'.b ⟨k, e', ⟨ab', hsub _ _ hg, hd'⟩, he', rfl⟩
        omega
    exact ⟨e, ob, he, hb, by rw [h.keeps.block e.b hlt hno]; exact hw, rb, hno, hlt⟩
  have part : ∀ i ab, gL' i = some ab → Mine ab → live g' i ∨ (g1 i = none ∧ gL i = some ab) := fun i ab hi hd => (hs i ab hi hd.nd).imp (fun h => ⟨ab, h, hd⟩) id
  refine ⟨h.mono, ⟨h.keeps.os, h.keeps.tape, h.keeps.output, h.keeps.size, fun b hb hn => h.keeps.block b hb (fun ho => hn (hown b ho))⟩, ⟨fun i ab hi hd => ?_, fun i j e1 e2 li lj hi hj hbb => ?_⟩, ?_⟩
  · rcases hs i ab hi hd with hg | ⟨h1, h2⟩
    · exact h.rh.blk i ab hg hd
    · obtain ⟨e, ob, he, hb, hw, rb, _⟩ := aside i ab h1 h2 hd
      exact ⟨e, ob, h.mono _ _ he, hb, hw, rb.mono h.mono⟩
  · obtain ⟨ab1, hg1, hd1⟩ := li
    obtain ⟨ab2, hg2, hd2⟩ := lj
    rcases part i ab1 hg1 hd1 with l1 | ⟨n1, p1⟩ <;> rcases part j ab2 hg2 hd2 with l2 | ⟨n2, p2⟩
    · exact h.rh.inj i j e1 e2 l1 l2 hi hj hbb
    · obtain ⟨e, ob, he, _, _, _, hno, hlt⟩ := aside j ab2 n2 p2 hd2.nd
      have := h.mono _ _ he; rw [hj] at this; cases this
      rcases h.grow e1.b ⟨i, e1, l1, hi, rfl⟩ with ho | ho
      · rw [hbb] at ho; exact absurd ho hno
      · omega
    · obtain ⟨e, ob, he, _, _, _, hno, hlt⟩ := aside i ab1 n1 p1 hd1.nd
      have := h.mono _ _ he; rw [hi] at this; cases this
      rcases h.grow e2.b ⟨j, e2, l2, hj, rfl⟩ with ho | ho
      · rw [← hbb] at ho; exact absurd ho hno
      · omega
    · obtain ⟨e, ob, he, _⟩ := aside i ab1 n1 p1 hd1.nd
      obtain ⟨e', ob', he', _⟩ := aside j ab2 n2 p2 hd2.nd
      have a1 := h.mono _ _ he; rw [hi] at a1; cases a1
      have a2 := h.mono _ _ he'; rw [hj] at a2; cases a2
      exact hr.inj i j e1 e2 ⟨ab1, p1, hd1⟩ ⟨ab2, p2, hd2⟩ he he' hbb
  · rintro b ⟨i, e, ⟨ab, hg, hd⟩, he, hb⟩
    rcases part i ab hg hd with l1 | ⟨n1, p1⟩
    · exact (h.grow b ⟨i, e, l1, he, hb⟩).imp (hown b) id
    · obtain ⟨e', ob, he', _⟩ := aside i ab n1 p1 hd.nd
      have a1 := h.mono _ _ he'; rw [he] at a1; cases a1
      exact .inl ⟨i, e, ⟨ab, p1, hd⟩, he', hb⟩

/-! ### names -/
theorem mem_tmpsOf {t : Nat} : ∀ {l : List Operand}, Operand.tmp t ∈ l → t ∈ tmpsOf l
  | x :: xs, h => by
    rcases List.mem_cons.1 h with e | e
    · subst e; simp [tmpsOf]
    · have := mem_tmpsOf e
      cases x <;> simp [tmpsOf, this]
theorem names_agree {fr fr' : Fr} {ops : Array Oper} {o : Oper} (h : ∀ t ∈ namesOf ops.toList o, fr.t.get t = fr'.t.get t) :
    (∀ x ∈ o.op.operands, fr.ev x = fr'.ev x) ∧ wantedA fr ops o = wantedA fr' ops o := by
  constructor
  · intro x hx
    cases x with
    | tmp t => simp only [Fr.ev, h t (List.mem_append_left _ (mem_tmpsOf (by simpa using hx)))]
    | const c => rfl
    | global g => rfl
    | func f => rfl
  · unfold wantedA
    cases hg : o.guard with
    | none => rfl
    | some q =>
      obtain ⟨j, want⟩ := q
      simp only
      cases ho : ops.toList[j]? with
      | none => rfl
      | some g =>
        simp only
        cases hd : g.dst with
        | none => rfl
        | some d =>
          have := h d (List.mem_append_right _ (by simp [guardTmp, hg, ho, hd]))
          simp only [this]
theorem hasTmp_iff {d : Option Tmp} {l : List Nat} : hasTmp d l = true ↔ ∃ t, d = some t ∧ t ∈ l := by
  cases d with
  | none => simp [hasTmp]
  | some t => simp [hasTmp]

theorem put_some' {fr : Fr} {d : Option Tmp} {v : AV} {fr' : Fr} (h : fr.put d v = some fr') :
    (fr'.fno = fr.fno ∧ fr'.lc = fr.lc ∧ fr'.n = fr.n ∧ fr'.df = fr.df ∧ fr'.rc = fr.rc) ∧ (∀ t, d = some t → t < fr.n) ∧ (∀ t, fr'.t.get t = if d = some t then some v else fr.t.get t) := by
  cases d with
  | none => simp only [Fr.put, Option.some.injEq] at h; subst h; simp
  | some d =>
    obtain ⟨hd, rfl⟩ := Fr.put_some _ _ _ _ h
    refine ⟨⟨rfl, rfl, rfl, rfl, rfl⟩, fun t ht => by cases ht; exact hd, fun t => ?_⟩
    simp only [T.get_set]
    by_cases e : t = d
    · subst e; simp
    · have : ¬ (some d = some t) := fun h => e (by cases h; rfl)
      simp [e, this]
theorem put_ok (fr : Fr) (d : Option Tmp) (v : AV) (h : ∀ t, d = some t → t < fr.n) : ∃ fr', fr.put d v = some fr' := by
  cases d with
  | none => exact ⟨fr, rfl⟩
  | some d =>
    obtain ⟨fno, lc, n, t, df, rc⟩ := fr
    have hd : d < n := h d rfl
    have : Nat.blt d n = true := by simpa using hd
    simp only [Fr.put, this, avC_eq, T.setC_eq]
    exact ⟨_, rfl⟩
end Go.Ai

namespace Go.Ai
open Go
variable {P : Program} {G : Glob} {base : Nat}

def Dst (fr : Fr) (o : Oper) (v : AV) : Prop := ∀ d, o.dst = some d → fr.t.get d = some v

def NoMade (z : Seen) (i : Nat) : Prop := ∀ k blk, (i, k, blk) ∉ z.made
/-- an operation that the evaluation has seen, and the run has not -/
def Pend (P : Program) (G : Glob) (ops : Array Oper) (fr : Fr) (s : St) (z : Seen) (i b : Nat) (o : Oper) : Prop :=
  (∀ d, o.dst = some d → d < fr.n) ∧
  ((NoMade z i ∧ wantedA fr ops o = false ∧ Dst fr o .undef) ∨
   (wantedA fr ops o = true ∧
     ((NoMade z i ∧ clsOf o.op = .pure ∧ ∃ v, pureOp P fr o.op = some v ∧ Dst fr o v) ∨
      (NoMade z i ∧ clsOf o.op = .read ∧ ∃ v, (i, b, o.op, v) ∈ z.reads ∧ readOp P G fr (addP (fun j => b.testBit j) s.h z.made) o.op = some v ∧ Dst fr o v) ∨
      (clsOf o.op = .alloc ∧ ∃ v blk, (i, keyOf fr i, blk) ∈ z.made ∧ allocOp P fr (keyOf fr i) o.op = some (v, blk) ∧ Dst fr o v ∧ hget s.h (keyOf fr i) = none))))

structure Inv (P : Program) (G : Glob) (base : Nat) (ops : Array Oper) (bs : List Nat) (fno : Nat) (rc0 : Rc) (ρ0 : Map) (s0 : St) (w0 : World)
    (rest : List DE) (done hv : Nat) (fr : Fr) (s : St) (z : Seen) (L : Nat → Bool) (frL : Fr) (ρ : Map) (a : Act) (w : World) : Prop where
  ent : ∀ x ∈ rest, ops[x.1]? = some x.2.2.2 ∧ bs[x.1]? = some x.2.1
  ok : orderOk (Nat.sub (2 ^ ops.toList.length) 1) rest done hv = true
  cl : Closed ops (fun i => L i = true)
  dl : ∀ i, done.testBit i = true → i < ops.size
  db : ∀ i o b, done.testBit i = true → ops[i]? = some o → bs[i]? = some b → ∀ j, b.testBit j = true → done.testBit j = true
  ld : ∀ i, L i = true → done.testBit i = true
  hl : ∀ i o, done.testBit i = true → ops[i]? = some o → isBar o = true → L i = true
  fe : frL.fno = fr.fno ∧ frL.lc = fr.lc ∧ frL.n = fr.n ∧ frL.df = fr.df ∧ frL.rc = fr.rc
  rf : RF ρ frL a
  ag : ∀ t, (∀ i o, ops[i]? = some o → o.dst = some t → done.testBit i = true → L i = true) → frL.t.get t = fr.t.get t
  pend : ∀ i o b, done.testBit i = true → L i = false → ops[i]? = some o → bs[i]? = some b → Pend P G ops fr s z i b o
  mad : MadeOK fr done z.made
  rm : RM G base ρ ⟨addP L s.h z.made, s.fc⟩ w
  ad : Adv base (Own fno) ρ0 s0 w0 ρ ⟨addP L s.h z.made, s.fc⟩ w
  fresh : ∀ k, fr.fno * KK + fr.lc ≤ k → k < (fr.fno + 1) * KK → ρ k ≠ none → ∃ i, L i = true ∧ k = keyOf fr i
  fn : fr.fno < s.fc
  fno : fr.fno = fno
  df : RD ρ fr.df a.defers
  klt : fr.lc + ops.size < KK
  nrc : fr.rc = rc0

section
variable {ops : Array Oper} {bs : List Nat} {fno : Nat} {rc0 : Rc} {ρ0 : Map} {s0 : St} {w0 : World} {rest : List DE} {done hv : Nat} {fr : Fr} {s : St} {z : Seen} {L : Nat → Bool} {frL : Fr} {ρ : Map} {a : Act} {w : World}

/-- the names of an operation are as the evaluation has them -/
theorem Inv.agree (I : Inv P G base ops bs fno rc0 ρ0 s0 w0 rest done hv fr s z L frL ρ a w) (hN : NamesOk ops bs) (hB : Bef ops bs) {j b : Nat} {o : Oper} (ho : ops[j]? = some o) (hb : bs[j]? = some b) (hbL : ∀ k, b.testBit k = true → L k = true) :
    (∀ x ∈ o.op.operands, frL.ev x = fr.ev x) ∧ wantedA frL ops o = wantedA fr ops o := by
  refine names_agree fun t ht => I.ag t fun i oi hoi hdi hdone => ?_
  have hi : i < bs.length := by rw [hB.len]; exact (Array.getElem?_eq_some_iff.1 hoi).1
  rcases hN.names j b o ho hb i bs[i] oi hoi (by simp [hi]) (hasTmp_iff.2 ⟨t, hdi, ht⟩) with h | ⟨h, _⟩
  · exact hbL i h
  · exact I.hl i oi hdone hoi h

theorem orderOk_hv {full : Nat} : ∀ {l : List DE} {done hv : Nat}, orderOk full l done hv = true → ∀ x ∈ l, ∀ k, hv.testBit k = true → x.2.1.testBit k = true
  | [], _, _, _, x, hx, _, _ => by cases hx
  | (i, b, st, o) :: r, done, hv, h, x, hx, k, hk => by
    simp only [orderOk] at h
    split at h
    · rename_i e1 e2 e3 e4
      rcases List.mem_cons.1 hx with e | e
      · subst e; exact covers_spec e3 hk
      · exact orderOk_hv h x e k (by rw [lor_spec, hk]; rfl)
    · rename_i e1 e2 e3 e4
      rcases List.mem_cons.1 hx with e | e
      · subst e; exact covers_spec e3 hk
      · exact orderOk_hv h x e k hk
    · cases h
theorem orderOk_mem {n : Nat} : ∀ {l : List DE} {done hv : Nat}, orderOk (Nat.sub (2 ^ n) 1) l done hv = true → ∀ j, j < n → done.testBit j = true ∨ ∃ x ∈ l, x.1 = j
  | [], done, _, h, j, hj => by
    simp only [orderOk] at h
    have := Nat.eq_of_beq_eq_true h
    subst this
    left
    show (2 ^ n - 1).testBit j = true
    rw [Nat.testBit_two_pow_sub_one]; simpa using hj
  | (i, b, st, o) :: r, done, hv, h, j, hj => by
    simp only [orderOk] at h
    have fin : ∀ hv', orderOk (Nat.sub (2 ^ n) 1) r (Nat.lor done (2 ^ i)) hv' = true → done.testBit j = true ∨ ∃ x ∈ (i, b, st, o) :: r, x.1 = j := by
      intro hv' h'
      rcases orderOk_mem h' j hj with e | ⟨x, hx, e⟩
      · rw [lor_spec] at e
        simp only [Bool.or_eq_true, decide_eq_true_eq] at e
        rcases e with e | e
        · exact .inl e
        · exact .inr ⟨_, List.mem_cons_self, e⟩
      · exact .inr ⟨x, List.mem_cons_of_mem _ hx, e⟩
    split at h
    · exact fin _ h
    · exact fin _ h
    · cases h
theorem orderOk_head {full i b st : Nat} {o : Oper} {r : List DE} {done hv : Nat} (h : orderOk full ((i, b, st, o) :: r) done hv = true) :
    done.testBit i = false ∧ (∀ j, b.testBit j = true → done.testBit j = true) ∧ ∃ hv', orderOk full r (Nat.lor done (2 ^ i)) hv' = true ∧ (isBar o = true → hv'.testBit i = true) := by
  simp only [orderOk] at h
  split at h
  · rename_i e1 e2 e3 e4
    exact ⟨e1, fun j => covers_spec e2, _, h, fun _ => by rw [lor_spec]; simp⟩
  · rename_i e1 e2 e3 e4
    exact ⟨e1, fun j => covers_spec e2, _, h, fun hb => by rw [e4] at hb; cases hb⟩
  · cases h

theorem Dst.put {fr fr' : Fr} {o oi : Oper} {v u : AV} (h : Dst fr o v) (hp : fr.put oi.dst u = some fr') (hne : sameDst oi.dst o.dst = false) : Dst fr' o v := by
  intro d hd
  have := (put_some' hp).2.2 d
  rw [this]
  split
  · rename_i e
    rw [e, hd] at hne
    simp [sameDst] at hne
  · exact h d hd

theorem names_put {fr fr' : Fr} {ops : Array Oper} {o oi : Oper} {u : AV} (hp : fr.put oi.dst u = some fr') (hne : hasTmp oi.dst (namesOf ops.toList o) = false) :
    (∀ x ∈ o.op.operands, fr.ev x = fr'.ev x) ∧ wantedA fr ops o = wantedA fr' ops o := by
  refine names_agree fun t ht => ?_
  rw [(put_some' hp).2.2 t]
  split
  · rename_i e
    rw [hasTmp_iff.2 ⟨t, e, ht⟩] at hne; cases hne
  · rfl

/-- what was pending is pending still -/
theorem Pend.step {fr fr' : Fr} {s s' : St} {z z' : Seen} {i b : Nat} {o oi : Oper} {u : AV} (h : Pend P G ops fr s z i b o) (hp : fr.put oi.dst u = some fr') (hn : hasTmp oi.dst (namesOf ops.toList o) = false) (hd : sameDst oi.dst o.dst = false)
    (hr : ∀ v, (i, b, o.op, v) ∈ z.reads → readOp P G fr (addP (fun j => b.testBit j) s.h z.made) o.op = some v → (i, b, o.op, v) ∈ z'.reads ∧ readOp P G fr (addP (fun j => b.testBit j) s'.h z'.made) o.op = some v)
    (hm : ∀ x ∈ z.made, x ∈ z'.made) (hm' : ∀ k blk, (i, k, blk) ∈ z'.made → (i, k, blk) ∈ z.made) (hk : ∀ blk, (i, keyOf fr i, blk) ∈ z.made → hget s.h (keyOf fr i) = none → hget s'.h (keyOf fr i) = none) : Pend P G ops fr' s' z' i b o := by
  obtain ⟨⟨f1, f2, f3, _⟩, _, _⟩ := put_some' hp
  obtain ⟨hev, hw⟩ := names_put (ops := ops) hp hn
  have hkey : keyOf fr' i = keyOf fr i := by rw [key_eq, key_eq, f1, f2]
  obtain ⟨h0, h1⟩ := h
  refine ⟨fun d hd => by rw [f3]; exact h0 d hd, ?_⟩
  rw [← hw, hkey]
  have hno : NoMade z i → NoMade z' i := fun h k blk hm => h k blk (hm' k blk hm)
  rcases h1 with ⟨n1, h1, h2⟩ | ⟨h1, h2⟩
  · exact .inl ⟨hno n1, h1, h2.put hp hd⟩
  · refine .inr ⟨h1, ?_⟩
    rcases h2 with ⟨n1, c, v, h3, h4⟩ | ⟨n1, c, v, h3, h4, h5⟩ | ⟨c, v, blk, h3, h4, h5, h6⟩
    · exact .inl ⟨hno n1, c, v, by rw [← pure_cong hev]; exact h3, h4.put hp hd⟩
    · obtain ⟨q1, q2⟩ := hr v h3 h4
      exact .inr (.inl ⟨hno n1, c, v, q1, by rw [← read_cong hev]; exact q2, h5.put hp hd⟩)
    · exact .inr (.inr ⟨c, v, blk, hm _ h3, by rw [← alloc_cong hev]; exact h4, h5.put hp hd, hk blk h3 h6⟩)
end
end Go.Ai

namespace Go.Ai
open Go
variable {P : Program} {G : Glob} {base : Nat}
section
variable {ops : Array Oper} {bs : List Nat} {fno : Nat} {rc0 : Rc} {ρ0 : Map} {s0 : St} {w0 : World} {rest : List DE} {done hv : Nat} {fr : Fr} {s : St} {z : Seen} {L : Nat → Bool} {frL : Fr} {ρ : Map} {a : Act} {w : World}

theorem sameDst_symm {d e : Option Tmp} : sameDst d e = sameDst e d := by
  cases d <;> cases e <;> first | rfl | skip
  rename_i x y
  show Nat.beq x y = Nat.beq y x
  cases h : Nat.beq y x with
  | true => rw [Nat.eq_of_beq_eq_true h]; exact Nat.beq_refl _
  | false =>
    cases h' : Nat.beq x y with
    | false => rfl
    | true => rw [Nat.eq_of_beq_eq_true h', Nat.beq_refl] at h; cases h

theorem own_names (hN : NamesOk ops bs) {i b : Nat} {o : Oper} (ho : ops[i]? = some o) (hb : bs[i]? = some b) (hnb : isBar o = false) (hbd : b.testBit i = false) : hasTmp o.dst (namesOf ops.toList o) = false := by
  cases h : hasTmp o.dst (namesOf ops.toList o) with
  | false => rfl
  | true =>
    rcases hN.names i b o ho hb i b o ho hb h with h1 | ⟨h1, _⟩
    · rw [hbd] at h1; cases h1
    · rw [hnb] at h1; cases h1

/-- the evaluation goes ahead of the run -/
theorem Inv.virt {i b st : Nat} {o : Oper} (I : Inv P G base ops bs fno rc0 ρ0 s0 w0 ((i, b, st, o) :: rest) done hv fr s z L frL ρ a w) (hN : NamesOk ops bs) (hnb : isBar o = false) {fr' : Fr} {z' : Seen} {u : AV} (hp : fr.put o.dst u = some fr')
    (hadd : ∀ p : Nat → Bool, p i = false → addP p s.h z'.made = addP p s.h z.made) (hpend : Pend P G ops fr' s z' i b o) (hreads : ∀ x ∈ z.reads, x ∈ z'.reads) (hmade : ∀ x ∈ z.made, x ∈ z'.made) (hmade' : ∀ j k blk, (j, k, blk) ∈ z'.made → j ≠ i → (j, k, blk) ∈ z.made) (hmad : MadeOK fr' (Nat.lor done (2 ^ i)) z'.made) :
    ∃ hv', Inv P G base ops bs fno rc0 ρ0 s0 w0 rest (Nat.lor done (2 ^ i)) hv' fr' s z' L frL ρ a w := by
  obtain ⟨hdi, hbd, hv', hok, _⟩ := orderOk_head I.ok
  obtain ⟨ho, hb⟩ := I.ent _ List.mem_cons_self
  simp only at ho hb
  have hLi : L i = false := by
    cases h : L i with
    | false => rfl
    | true => have := I.ld i h; rw [hdi] at this; cases this
  have hin : i < ops.size := (Array.getElem?_eq_some_iff.1 ho).1
  obtain ⟨⟨f1, f2, f3, f4, f5⟩, _, fget⟩ := put_some' hp
  have hdone : ∀ j, (Nat.lor done (2 ^ i)).testBit j = true ↔ (done.testBit j = true ∨ j = i) := by
    intro j; rw [lor_spec, Bool.or_eq_true, decide_eq_true_eq]
    exact ⟨fun h => h.imp id Eq.symm, fun h => h.imp id Eq.symm⟩
  refine ⟨hv', ⟨fun x hx => I.ent x (List.mem_cons_of_mem _ hx), hok, I.cl, ?_, ?_, ?_, ?_, ?_, I.rf, ?_, ?_, hmad, ?_, ?_, ?_, ?_, ?_, ?_, ?_, ?_⟩⟩
  · intro j hj; rcases (hdone j).1 hj with h | h
    · exact I.dl j h
    · rw [h]; exact hin
  · intro j oj bj hj hoj hbj k hk
    refine (hdone k).2 (.inl ?_)
    rcases (hdone j).1 hj with h | h
    · exact I.db j oj bj h hoj hbj k hk
    · subst h; rw [hb] at hbj; cases hbj; exact hbd k hk
  · intro j hj; exact (hdone j).2 (.inl (I.ld j hj))
  · intro j oj hj hoj hbar
    rcases (hdone j).1 hj with h | h
    · exact I.hl j oj h hoj hbar
    · subst h; rw [ho] at hoj; cases hoj; rw [hnb] at hbar; cases hbar
  · obtain ⟨e1, e2, e3, e4, e5⟩ := I.fe
    exact ⟨by rw [e1, f1], by rw [e2, f2], by rw [e3, f3], by rw [e4, f4], by rw [e5, f5]⟩
  · intro t ht
    have hne : ¬ (o.dst = some t) := fun h => by
      have := ht i o ho h ((hdone i).2 (.inr rfl))
      rw [hLi] at this; cases this
    rw [fget t, if_neg hne]
    exact I.ag t fun j oj hoj hd hdj => ht j oj hoj hd ((hdone j).2 (.inl hdj))
  · intro j oj bj hj hLj hoj hbj
    by_cases hji : j = i
    · subst hji; rw [ho] at hoj; rw [hb] at hbj; cases hoj; cases hbj; exact hpend
    · have hdj : done.testBit j = true := ((hdone j).1 hj).resolve_right hji
      have hbji : bj.testBit i = false := by
        cases h : bj.testBit i with
        | false => rfl
        | true => have := I.db j oj bj hdj hoj hbj i h; rw [hdi] at this; cases this
      refine (I.pend j oj bj hdj hLj hoj hbj).step hp ?_ ?_ ?_ hmade (fun k blk hm => hmade' j k blk hm hji) (fun _ _ h => h)
      · cases h : hasTmp o.dst (namesOf ops.toList oj) with
        | false => rfl
        | true =>
          rcases hN.names j bj oj hoj hbj i b o ho hb h with h1 | ⟨h1, _⟩
          · rw [hbji] at h1; cases h1
          · rw [hnb] at h1; cases h1
      · cases h : sameDst o.dst oj.dst with
        | false => rfl
        | true =>
          rcases Nat.lt_trichotomy i j with hlt | heq | hlt
          · have := (hN.dsts i o ho j bj oj hoj hbj hlt h).1
            rw [hbji] at this; cases this
          · exact absurd heq.symm hji
          · rcases (hN.dsts j oj hoj i b o ho hb hlt (by rw [sameDst_symm]; exact h)).2 with h1 | h1
            · have := I.hl j oj hdj hoj h1
              rw [hLj] at this; cases this
            · rw [hnb] at h1; cases h1
      · intro v h1 h2
        exact ⟨hreads _ h1, by rw [hadd _ hbji]; exact h2⟩
  · rw [hadd L hLi]; exact I.rm
  · rw [hadd L hLi]; exact I.ad
  · intro k h1 h2 h3
    rw [f1, f2] at h1; rw [f1] at h2
    obtain ⟨j, h4, h5⟩ := I.fresh k h1 h2 h3
    exact ⟨j, h4, by rw [h5, key_eq, key_eq, f1, f2]⟩
  · rw [f1]; exact I.fn
  · rw [f1]; exact I.fno
  · rw [f4]; exact I.df
  · rw [f2]; exact I.klt
  · rw [f5]; exact I.nrc

def Stopped : List DE → Prop
  | [] => True
  | (_, _, _, o) :: _ => isBar o = true

theorem notBar {o : Oper} (h : isBar o = false) : clsOf o.op ≠ .heavy := by
  intro hc
  unfold isBar at h
  split at h
  · cases h
  · rw [(clsHeavy_iff o).2 hc] at h; cases h

theorem dst_of_put {fr fr' : Fr} {o : Oper} {v : AV} (hp : fr.put o.dst v = some fr') : Dst fr' o v := by
  intro d hd
  rw [(put_some' hp).2.2 d, if_pos hd]

theorem Inv.advance {call : CallF} {n : Nat} {outs : List (Ex × Fr × St)} (hN : NamesOk ops bs) : ∀ (rest : List DE) (done hv : Nat) (fr : Fr) (z : Seen),
    drawOps P G call ops n rest done fr s z = some outs → Inv P G base ops bs fno rc0 ρ0 s0 w0 rest done hv fr s z L frL ρ a w →
    ∃ rest' done' hv' fr' z', drawOps P G call ops n rest' done' fr' s z' = some outs ∧ Inv P G base ops bs fno rc0 ρ0 s0 w0 rest' done' hv' fr' s z' L frL ρ a w ∧ Stopped rest'
  | [], done, hv, fr, z, h, I => ⟨[], done, hv, fr, z, h, I, trivial⟩
  | (i, b, st, o) :: rest, done, hv, fr, z, h, I => by
    cases hbar : isBar o with
    | true => exact ⟨_, done, hv, fr, z, h, I, hbar⟩
    | false =>
      have hcls := notBar hbar
      obtain ⟨hdi, hbd, _⟩ := orderOk_head I.ok
      obtain ⟨ho, hb⟩ := I.ent _ List.mem_cons_self
      simp only at ho hb
      have hbi : b.testBit i = false := by
        cases h : b.testBit i with
        | false => rfl
        | true => have := hbd i h; rw [hdi] at this; cases this
      have hown := own_names hN ho hb hbar hbi
      have hnm : NoMade z i := fun k blk hm => by have := (I.mad.1 i k blk hm).2; rw [hdi] at this; cases this
      have mad0 : ∀ fr', fr'.fno = fr.fno → fr'.lc = fr.lc → MadeOK fr' (Nat.lor done (2 ^ i)) z.made := fun fr' e1 e2 =>
        ⟨fun j k blk hm => ⟨by rw [(I.mad.1 j k blk hm).1, key_eq, key_eq, e1, e2], by rw [lor_spec, (I.mad.1 j k blk hm).2]; rfl⟩, I.mad.2⟩
      simp only [drawOps] at h
      split at h
      · rename_i hw
        obtain ⟨fr', hp, hk⟩ := putK_spec h
        simp only [natC_eq] at hk
        obtain ⟨⟨f1, f2, f3, _⟩, fd, _⟩ := put_some' hp
        obtain ⟨_, hww⟩ := names_put (ops := ops) hp hown
        obtain ⟨hv', I'⟩ := I.virt hN hbar hp (z' := z) (fun _ _ => rfl) ⟨fun d hd => by rw [f3]; exact fd d hd, .inl ⟨hnm, by rw [← hww]; exact hw, dst_of_put hp⟩⟩ (fun _ h => h) (fun _ h => h) (fun _ _ _ h _ => h) (mad0 fr' f1 f2)
        exact Inv.advance hN rest _ hv' fr' z hk I'
      · rename_i hw
        unfold dOne at h
        split at h
        · rename_i hc
          cases hv0 : pureOp P fr o.op with
          | none => rw [hv0] at h; cases h
          | some v =>
            rw [hv0] at h
            simp only [putV] at h
            obtain ⟨fr', hp, hk⟩ := putK_spec h
            simp only [natC_eq] at hk
            obtain ⟨⟨f1, f2, f3, _⟩, fd, _⟩ := put_some' hp
            obtain ⟨hev, hww⟩ := names_put (ops := ops) hp hown
            obtain ⟨hv', I'⟩ := I.virt hN hbar hp (z' := z) (fun _ _ => rfl) ⟨fun d hd => by rw [f3]; exact fd d hd, .inr ⟨by rw [← hww]; exact hw, .inl ⟨hnm, hc, v, by rw [← pure_cong hev]; exact hv0, dst_of_put hp⟩⟩⟩ (fun _ h => h) (fun _ h => h) (fun _ _ _ h _ => h) (mad0 fr' f1 f2)
            exact Inv.advance hN rest _ hv' fr' z hk I'
        · rename_i hc
          cases hv0 : readOp P G fr (addMade b s.h z.made) o.op with
          | none => rw [hv0] at h; cases h
          | some v =>
            rw [hv0] at h
            obtain ⟨m, rd⟩ := z
            simp only [dRead] at h
            obtain ⟨fr', hp, hk⟩ := putK_spec h
            simp only [natC_eq] at hk
            obtain ⟨⟨f1, f2, f3, _⟩, fd, _⟩ := put_some' hp
            obtain ⟨hev, hww⟩ := names_put (ops := ops) hp hown
            rw [addMade_eq] at hv0
            obtain ⟨hv', I'⟩ := I.virt hN hbar hp (z' := ⟨m, (i, b, o.op, v) :: rd⟩) (fun _ _ => rfl) ⟨fun d hd => by rw [f3]; exact fd d hd, .inr ⟨by rw [← hww]; exact hw, .inr (.inl ⟨hnm, hc, v, List.mem_cons_self, by rw [← read_cong hev]; exact hv0, dst_of_put hp⟩)⟩⟩ (fun _ h => List.mem_cons_of_mem _ h) (fun _ h => h) (fun _ _ _ h _ => h) (mad0 fr' f1 f2)
            exact Inv.advance hN rest _ hv' fr' _ hk I'
        · rename_i hc
          cases hv0 : allocOp P fr (keyOf fr i) o.op with
          | none => rw [hv0] at h; cases h
          | some q =>
            obtain ⟨v, blk⟩ := q
            rw [hv0] at h
            obtain ⟨m, rd⟩ := z
            simp only [dAlloc] at h
            have hnone : hget s.h (keyOf fr i) = none := by
              cases hn : hget s.h (keyOf fr i) with
              | none => rfl
              | some x => rw [hn] at h; cases h
            rw [hnone] at h
            obtain ⟨fr', hp, hk⟩ := putK_spec h
            simp only [natC_eq] at hk
            obtain ⟨⟨f1, f2, f3, _⟩, fd, _⟩ := put_some' hp
            obtain ⟨hev, hww⟩ := names_put (ops := ops) hp hown
            have hkey : keyOf fr' i = keyOf fr i := by rw [key_eq, key_eq, f1, f2]
            have hmad : MadeOK fr' (Nat.lor done (2 ^ i)) ((i, keyOf fr i, blk) :: m) := by
              refine ⟨fun j k b' hm => ?_, fun j k b1 k' b2 h1 h2 => ?_⟩
              · rcases List.mem_cons.1 hm with e | e
                · cases e; exact ⟨hkey.symm, by rw [lor_spec]; simp⟩
                · exact (mad0 fr' f1 f2).1 j k b' e
              · have aux : ∀ k b', (i, k, b') ∈ m → False := fun k b' hm => by
                  have := (I.mad.1 i k b' hm).2; rw [hdi] at this; cases this
                rcases List.mem_cons.1 h1 with e | e <;> rcases List.mem_cons.1 h2 with e' | e'
                · cases e; cases e'; rfl
                · cases e; exact (aux _ _ e').elim
                · cases e'; exact (aux _ _ e).elim
                · exact I.mad.2 _ _ _ _ _ e e'
            obtain ⟨hv', I'⟩ := I.virt hN hbar hp (z' := ⟨(i, keyOf fr i, blk) :: m, rd⟩) (fun p hpi => by simp only [addP, hpi]) ⟨fun d hd => by rw [f3]; exact fd d hd, .inr ⟨by rw [← hww]; exact hw, .inr (.inr ⟨hc, v, blk, by rw [hkey]; exact List.mem_cons_self, by rw [hkey, ← alloc_cong hev]; exact hv0, dst_of_put hp, by rw [hkey]; exact hnone⟩)⟩⟩ (fun _ h => h) (fun _ h => List.mem_cons_of_mem _ h) (fun j k b' h hji => by
              rcases List.mem_cons.1 h with e | e
              · cases e; exact absurd rfl hji
              · exact e) hmad
            exact Inv.advance hN rest _ hv' fr' _ hk I'
        · rename_i hc; exact absurd hc hcls
end
end Go.Ai

namespace Go.Ai
open Go
variable {P : Program} {G : Glob} {base : Nat}

theorem addP_congr {p q : Nat → Bool} : ∀ {m : Made} {h : Heap}, (∀ j k blk, (j, k, blk) ∈ m → p j = q j) → addP p h m = addP q h m
  | [], h, _ => rfl
  | (j, k, blk) :: r, h, hc => by
    have e := hc j k blk List.mem_cons_self
    have ih : ∀ h', addP p h' r = addP q h' r := fun h' => addP_congr fun j' k' b' hm => hc j' k' b' (List.mem_cons_of_mem _ hm)
    simp only [addP, e, ih]
theorem lookM_congr {p q : Nat → Bool} {i : Nat} : ∀ {m : Made}, (∀ j blk, (j, i, blk) ∈ m → p j = q j) → lookM p i m = lookM q i m
  | [], _ => rfl
  | (j, k, blk) :: r, hc => by
    have ih : lookM p i r = lookM q i r := lookM_congr fun j' b' hm => hc j' b' (List.mem_cons_of_mem _ hm)
    simp only [lookM, ih]
    by_cases e : i = k
    · subst e
      have := hc j blk List.mem_cons_self
      simp only [true_and, this]
    · simp [e]

section
variable {ops : Array Oper} {bs : List Nat} {fno : Nat} {rc0 : Rc} {ρ0 : Map} {s0 : St} {w0 : World} {rest : List DE} {done hv : Nat} {fr : Fr} {s : St} {z : Seen} {L : Nat → Bool} {frL : Fr} {ρ : Map} {a : Act} {w : World}

def plus (L : Nat → Bool) (j : Nat) : Nat → Bool := fun k => L k || decide (k = j)
theorem plus_iff {L : Nat → Bool} {j k : Nat} : plus L j k = true ↔ (L k = true ∨ k = j) := by
  simp only [plus, Bool.or_eq_true, decide_eq_true_eq]

theorem Inv.key (I : Inv P G base ops bs fno rc0 ρ0 s0 w0 rest done hv fr s z L frL ρ a w) {j : Nat} (hj : j < ops.size) (hL : L j = false) : ρ (keyOf fr j) = none ∧ keyOf fr j < s.fc * KK ∧ Own fno (keyOf fr j) := by
  have e := key_eq fr j
  have h1 : (fr.fno + 1) * KK ≤ s.fc * KK := Nat.mul_le_mul_right _ I.fn
  have h2 := succ_KK fr.fno
  have hk := I.klt
  have hf := I.fno
  subst hf
  have hfr := I.fresh (keyOf fr j)
  generalize hkk : keyOf fr j = k at e hfr ⊢
  refine ⟨?_, by omega, ⟨by omega, by omega⟩⟩
  cases hρ : ρ k with
  | none => rfl
  | some x =>
    obtain ⟨i, h3, h4⟩ := hfr (by omega) (by omega) (by rw [hρ]; simp)
    have := key_inj (hkk.trans h4)
    subst this
    rw [hL] at h3; cases h3

/-- the run takes a step that the evaluation has taken -/
theorem Inv.exec (I : Inv P G base ops bs fno rc0 ρ0 s0 w0 rest done hv fr s z L frL ρ a w) {j : Nat} {o : Oper} (ho : ops[j]? = some o) (hdj : done.testBit j = true) (hLj : L j = false) (hed : ∀ e ∈ o.after.toList, Region.binds .any e = true → L e.on = true)
    {v : AV} {u : Value} {frL' : Fr} {ρ' : Map} {w' : World} (hp : frL.put o.dst v = some frL') (hdst : Dst fr o v) (ru : RV ρ' v u)
    (hadv : Adv base (fun i => i = keyOf fr j) ρ ⟨addP L s.h z.made, s.fc⟩ w ρ' ⟨addP (plus L j) s.h z.made, s.fc⟩ w') :
    Inv P G base ops bs fno rc0 ρ0 s0 w0 rest done hv fr s z (plus L j) frL' ρ' (a.put o.dst u) w' := by
  have hj : j < ops.size := (Array.getElem?_eq_some_iff.1 ho).1
  obtain ⟨_, hkey, hown⟩ := I.key hj hLj
  obtain ⟨⟨f1, f2, f3, f4, f5⟩, _, fget⟩ := put_some' hp
  obtain ⟨e1, e2, e3, e4, e5⟩ := I.fe
  refine ⟨I.ent, I.ok, ?_, I.dl, I.db, ?_, ?_, ⟨f1.trans e1, f2.trans e2, f3.trans e3, f4.trans e4, f5.trans e5⟩, ((I.rf.mono hadv.st.mono).put hp ru).1, ?_, ?_, I.mad, I.rm.adv hadv, ?_, ?_, I.fn, I.fno, ?_, I.klt, I.nrc⟩
  · intro i oi hi hoi e he hb
    refine plus_iff.2 ?_
    rcases plus_iff.1 hi with h | h
    · exact .inl (I.cl i oi h hoi e he hb)
    · subst h; rw [ho] at hoi; cases hoi; exact .inl (hed e he hb)
  · intro i hi
    rcases plus_iff.1 hi with h | h
    · exact I.ld i h
    · rw [h]; exact hdj
  · intro i oi h1 h2 h3; exact plus_iff.2 (.inl (I.hl i oi h1 h2 h3))
  · intro t ht
    rw [fget t]
    split
    · rename_i e; exact (hdst t e).symm
    · rename_i e
      refine I.ag t fun i oi hoi hd hdi => ?_
      rcases plus_iff.1 (ht i oi hoi hd hdi) with h | h
      · exact h
      · subst h; rw [ho] at hoi; cases hoi; exact absurd hd e
  · intro i oi bi h1 h2 h3 h4
    have : L i = false := by
      cases h : L i with
      | false => rfl
      | true => rw [plus_iff.2 (.inl h)] at h2; cases h2
    exact I.pend i oi bi h1 this h3 h4
  · exact I.ad.trans (hadv.mono fun i _ e => by rw [e]; exact hown)
  · intro k h1 h2 h3
    by_cases e : k = keyOf fr j
    · exact ⟨j, plus_iff.2 (.inr rfl), e⟩
    · have hlt : k < s.fc * KK := Nat.lt_of_lt_of_le h2 (Nat.mul_le_mul_right _ I.fn)
      rw [hadv.keep k hlt e] at h3
      obtain ⟨i, h4, h5⟩ := I.fresh k h1 h2 h3
      exact ⟨i, plus_iff.2 (.inl h4), h5⟩
  · rw [put_defers]; exact I.df.mono hadv.st.mono

/-- A STEP OF THE RUN THAT THE EVALUATION HAS TAKEN. -/
theorem Inv.pending (I : Inv P G base ops bs fno rc0 ρ0 s0 w0 rest done hv fr s z L frL ρ a w) (hN : NamesOk ops bs) (hB : Bef ops bs) {j b : Nat} {o : Oper} (ho : ops[j]? = some o) (hb : bs[j]? = some b) (hdj : done.testBit j = true) (hLj : L j = false)
    (hed : ∀ e ∈ o.after.toList, Region.binds .any e = true → L e.on = true) {K : Act → World → Prop} {Q : Exit → Act → World → Prop}
    (hK : ∀ frL' ρ' a' w', Inv P G base ops bs fno rc0 ρ0 s0 w0 rest done hv fr s z (plus L j) frL' ρ' a' w' → K a' w') : wpOp P ops Q j K a w := by
  have hbL := hB.sub I.cl j b o ho hb hed
  obtain ⟨hev, hw⟩ := I.agree hN hB ho hb hbL
  obtain ⟨hd, hcase⟩ := I.pend j o b hdj hLj ho hb
  have hj : j < ops.size := (Array.getElem?_eq_some_iff.1 ho).1
  obtain ⟨hfresh, hkey, hown⟩ := I.key hj hLj
  have hputL : ∀ v, ∃ frL', frL.put o.dst v = some frL' := fun v => put_ok frL o.dst v (fun t ht => by rw [I.fe.2.2.1]; exact hd t ht)
  have same : NoMade z j → addP (plus L j) s.h z.made = addP L s.h z.made := fun hn => addP_congr fun i k blk hm => by
    have : i ≠ j := fun e => by subst e; exact hn k blk hm
    simp [plus, this]
  have refl : NoMade z j → Adv base (fun i => i = keyOf fr j) ρ ⟨addP L s.h z.made, s.fc⟩ w ρ ⟨addP (plus L j) s.h z.made, s.fc⟩ w := fun hn => by
    rw [same hn]; exact Adv.refl I.rm.rh I.rm.hi
  unfold wpOp
  simp only [ho]
  rw [wantedA_sound I.rf ops o, hw]
  rcases hcase with ⟨n1, h1, h2⟩ | ⟨h1, hcase⟩
  · rw [h1]
    simp only [Bool.false_eq_true, if_false]
    obtain ⟨frL', hp⟩ := hputL .undef
    exact hK _ _ _ _ (I.exec ho hdj hLj hed hp h2 (rv_undef _) (refl n1))
  · rw [h1]
    simp only [if_true]
    left
    unfold Oper.wp
    rcases hcase with ⟨n1, c, v, h3, h4⟩ | ⟨n1, c, v, h3, h4, h5⟩ | ⟨c, v, blk, h3, h4, h5, h6⟩
    · obtain ⟨u, hu, ru⟩ := pure_sound I.rf ((pure_cong hev).trans h3)
      obtain ⟨frL', hp⟩ := hputL v
      rw [hu w, Oper.upon_value]
      exact hK _ _ _ _ (I.exec ho hdj hLj hed hp h4 ru (refl n1))
    · have hsub : RH ρ base (hget (addP (fun j => b.testBit j) s.h z.made)) w := I.rm.rh.sub fun i ab hg _ => I.mad.sub hbL hg
      obtain ⟨u, hu, ru⟩ := read_sound hsub I.rm.rg I.rf ((read_cong hev).trans h4)
      obtain ⟨frL', hp⟩ := hputL v
      rw [hu, Oper.upon_value]
      exact hK _ _ _ _ (I.exec ho hdj hLj hed hp h5 ru (refl n1))
    · obtain ⟨ob, k, u, h7, h8, h9⟩ := alloc_sound (key := keyOf fr j) I.rf hfresh ((alloc_cong hev).trans h4) w
      obtain ⟨frL', hp⟩ := hputL v
      rw [h7, Oper.upon_value]
      have hg : hget (addP (plus L j) s.h z.made) = hget (hset (addP L s.h z.made) (keyOf fr j) blk) := by
        rw [hget_upd]
        funext i
        rw [addP_get, addP_get]
        by_cases e : i = keyOf fr j
        · subst e
          rw [if_pos rfl, h6, Option.none_or]
          exact I.mad.look h3 (plus_iff.2 (.inr rfl))
        · rw [if_neg e]
          congr 1
          refine lookM_congr fun i' b' hm => ?_
          have : i' ≠ j := fun e' => by subst e'; exact e (I.mad.1 _ _ _ hm).1
          simp [plus, this]
      have hst := Stp.new (key := keyOf fr j) (k := k) (o := 0) I.rm.rh hfresh I.rm.bs (allocOp_norom h4) h9
      refine hK _ _ _ _ (I.exec ho hdj hLj hed hp h5 h8 ⟨?_, Nat.le_refl _, fun i _ hn => by simp [ext, hn], fun i hi => ?_⟩)
      · show Stp ρ base _ w _ (hget (addP (plus L j) s.h z.made)) _
        rw [hg]; exact hst
      · have hi' : s.fc * KK ≤ i := hi
        have hne : i ≠ keyOf fr j := by omega
        simp only [ext, if_neg hne]; exact I.rm.hi i hi
end
end Go.Ai

namespace Go.Ai
open Go
variable {P : Program} {G : Glob} {base : Nat}

theorem drawOuts_val {f : AV → St → Res} {fr : Fr} {bh : Bool} : ∀ {l : List Out} {res : List (Ex × Fr × St)} {v : AV} {s : St}, drawOuts f fr bh l = some res → Out.val v s ∈ l → ∃ o', f v s = some o' ∧ ∀ x ∈ o', x ∈ res
  | [], _, _, _, _, h => by cases h
  | .val v0 s0 :: rest, res, v, s, h, hm => by
    simp only [drawOuts] at h
    split at h
    · cases h
    · rename_i a ha
      split at h
      · cases h
        rcases List.mem_cons.1 hm with e | e
        · cases e; exact ⟨_, ha, fun _ h => h⟩
        · cases e
      · split at h
        · cases h
        · rename_i b hb
          cases h
          rcases List.mem_cons.1 hm with e | e
          · cases e; exact ⟨_, ha, fun x h => List.mem_append_left _ h⟩
          · obtain ⟨o', h1, h2⟩ := drawOuts_val hb e
            exact ⟨o', h1, fun x hx => List.mem_append_right _ (h2 x hx)⟩
  | .pan v0 s0 :: rest, res, v, s, h, hm => by
    simp only [drawOuts] at h
    split at h
    · rename_i b _ hb
      cases h
      rcases List.mem_cons.1 hm with e | e
      · cases e
      · obtain ⟨o', h1, h2⟩ := drawOuts_val hb e
        exact ⟨o', h1, fun x hx => List.mem_cons_of_mem _ (h2 x hx)⟩
    · cases h
theorem drawOuts_pan {f : AV → St → Res} {fr : Fr} {bh : Bool} : ∀ {l : List Out} {res : List (Ex × Fr × St)} {v : AV} {s : St}, drawOuts f fr bh l = some res → Out.pan v s ∈ l → bh = true ∧ (Ex.pan v, fr, s) ∈ res
  | [], _, _, _, _, h => by cases h
  | .val v0 s0 :: rest, res, v, s, h, hm => by
    simp only [drawOuts] at h
    split at h
    · cases h
    · rename_i a ha
      split at h
      · cases h
        rcases List.mem_cons.1 hm with e | e
        · cases e
        · cases e
      · split at h
        · cases h
        · rename_i b hb
          cases h
          rcases List.mem_cons.1 hm with e | e
          · cases e
          · obtain ⟨h1, h2⟩ := drawOuts_pan hb e
            exact ⟨h1, List.mem_append_right _ h2⟩
  | .pan v0 s0 :: rest, res, v, s, h, hm => by
    simp only [drawOuts] at h
    split at h
    · rename_i b _ hb
      cases h
      rcases List.mem_cons.1 hm with e | e
      · cases e; exact ⟨rfl, List.mem_cons_self⟩
      · exact ⟨rfl, List.mem_cons_of_mem _ (drawOuts_pan hb e).2⟩
    · cases h

theorem readsOk_spec {fr : Fr} {h : Heap} {m : Made} : ∀ {l : List (Nat × Op × AV)}, readsOk P G fr h m l = true → ∀ b op v, (b, op, v) ∈ l → readOp P G fr (addP (fun j => b.testBit j) h m) op = some v
  | [], _, b, op, v, hm => by cases hm
  | (b0, op0, v0) :: rest, hr, b, op, v, hm => by
    simp only [readsOk] at hr
    split at hr
    · rename_i u hu
      split at hr
      · rename_i he
        rcases List.mem_cons.1 hm with e | e
        · cases e; rw [← addMade_eq, hu, avEq_eq he]
        · exact readsOk_spec hr b op v e
      · cases hr
    · cases hr
theorem readsLeft_mem {bx : Nat} : ∀ {l : List (Nat × Nat × Op × AV)} {r b : Nat} {op : Op} {v : AV}, (r, b, op, v) ∈ l → bx.testBit r = false → (b, op, v) ∈ readsLeft bx l
  | [], _, _, _, _, h, _ => by cases h
  | (r0, b0, op0, v0) :: rest, r, b, op, v, h, hb => by
    simp only [readsLeft]
    rcases List.mem_cons.1 h with e | e
    · cases e; rw [hb]; exact List.mem_cons_self
    · have := readsLeft_mem e hb
      split
      · exact this
      · exact List.mem_cons_of_mem _ this
theorem asideOk_spec {h1 h' : Heap} : ∀ {m : Made}, asideOk h1 h' m = true → ∀ j k blk, (j, k, blk) ∈ m → (hget h1 k = none ↔ hget h' k = none)
  | [], _, j, k, blk, hm => by cases hm
  | (j0, k0, b0) :: r, h, j, k, blk, hm => by
    simp only [asideOk] at h
    split at h
    · rename_i e1 e2
      rcases List.mem_cons.1 hm with e | e
      · cases e; simp [e1, e2]
      · exact asideOk_spec h j k blk e
    · rename_i e1 e2
      rcases List.mem_cons.1 hm with e | e
      · cases e; simp [e1, e2]
      · exact asideOk_spec h j k blk e
    · cases h

section
variable {ops : Array Oper} {bs : List Nat} {fno : Nat} {rc0 : Rc} {ρ0 : Map} {s0 : St} {w0 : World} {rest : List DE} {done hv : Nat} {fr : Fr} {s : St} {z : Seen} {L : Nat → Bool} {frL : Fr} {ρ : Map} {a : Act} {w : World}

/-- evaluation and run take a step together -/
theorem Inv.bar {i b st : Nat} {o : Oper} (I : Inv P G base ops bs fno rc0 ρ0 s0 w0 ((i, b, st, o) :: rest) done hv fr s z L frL ρ a w) (hN : NamesOk ops bs) (hLi : L i = false) (hed : ∀ e ∈ o.after.toList, Region.binds .any e = true → L e.on = true) (hbL : ∀ k, b.testBit k = true → L k = true)
    {v : AV} {u : Value} {fr' frL' : Fr} {s' : St} {ρ' : Map} {w' : World} (hp : fr.put o.dst v = some fr') (hpL : frL.put o.dst v = some frL') (ru : RV ρ' v u)
    (hadv : Adv base (fun k => k = keyOf fr i) ρ ⟨addP L s.h z.made, s.fc⟩ w ρ' ⟨addP (plus L i) s'.h z.made, s'.fc⟩ w')
    (hrd : ∀ j bj oj v, L j = false → (j, bj, oj, v) ∈ z.reads → readOp P G fr (addP (fun k => bj.testBit k) s.h z.made) oj = some v → readOp P G fr (addP (fun k => bj.testBit k) s'.h z.made) oj = some v)
    (hka : ∀ j k blk, L j = false → (j, k, blk) ∈ z.made → hget s.h k = none → hget s'.h k = none) :
    ∃ hv', Inv P G base ops bs fno rc0 ρ0 s0 w0 rest (Nat.lor done (2 ^ i)) hv' fr' s' z (plus L i) frL' ρ' (a.put o.dst u) w' := by
  obtain ⟨hdi, hbd, hv', hok, _⟩ := orderOk_head I.ok
  obtain ⟨ho, hb⟩ := I.ent _ List.mem_cons_self
  simp only at ho hb
  have hin : i < ops.size := (Array.getElem?_eq_some_iff.1 ho).1
  obtain ⟨_, hkey, hown⟩ := I.key hin hLi
  obtain ⟨⟨f1, f2, f3, f4, f5⟩, fd, fget⟩ := put_some' hp
  obtain ⟨⟨g1, g2, g3, g4, g5⟩, _, gget⟩ := put_some' hpL
  obtain ⟨e1, e2, e3, e4, e5⟩ := I.fe
  have hdone : ∀ j, (Nat.lor done (2 ^ i)).testBit j = true ↔ (done.testBit j = true ∨ j = i) := by
    intro j; rw [lor_spec, Bool.or_eq_true, decide_eq_true_eq]
    exact ⟨fun h => h.imp id Eq.symm, fun h => h.imp id Eq.symm⟩
  refine ⟨hv', ⟨fun x hx => I.ent x (List.mem_cons_of_mem _ hx), hok, ?_, ?_, ?_, ?_, ?_, ?_, ((I.rf.mono hadv.st.mono).put hpL ru).1, ?_, ?_, ?_, I.rm.adv hadv, ?_, ?_, ?_, ?_, ?_, ?_, ?_⟩⟩
  · intro k ok hk hook e he hbi
    refine plus_iff.2 ?_
    rcases plus_iff.1 hk with h | h
    · exact .inl (I.cl k ok h hook e he hbi)
    · subst h; rw [ho] at hook; cases hook; exact .inl (hed e he hbi)
  · intro j hj; rcases (hdone j).1 hj with h | h
    · exact I.dl j h
    · rw [h]; exact hin
  · intro j oj bj hj hoj hbj k hk
    refine (hdone k).2 (.inl ?_)
    rcases (hdone j).1 hj with h | h
    · exact I.db j oj bj h hoj hbj k hk
    · subst h; rw [hb] at hbj; cases hbj; exact hbd k hk
  · intro j hj
    rcases plus_iff.1 hj with h | h
    · exact (hdone j).2 (.inl (I.ld j h))
    · exact (hdone j).2 (.inr h)
  · intro j oj hj hoj hbar
    refine plus_iff.2 ?_
    rcases (hdone j).1 hj with h | h
    · exact .inl (I.hl j oj h hoj hbar)
    · exact .inr h
  · exact ⟨by rw [g1, e1, f1], by rw [g2, e2, f2], by rw [g3, e3, f3], by rw [g4, e4, f4], by rw [g5, e5, f5]⟩
  · intro t ht
    rw [fget t, gget t]
    split
    · rfl
    · refine I.ag t fun j oj hoj hd hdj => ?_
      rcases plus_iff.1 (ht j oj hoj hd ((hdone j).2 (.inl hdj))) with h | h
      · exact h
      · subst h; rw [hdi] at hdj; cases hdj
  · intro j oj bj hj hLj hoj hbj
    have hji : j ≠ i := fun e => by rw [plus_iff.2 (.inr e)] at hLj; cases hLj
    have hLj' : L j = false := by
      cases h : L j with
      | false => rfl
      | true => rw [plus_iff.2 (.inl h)] at hLj; cases hLj
    have hdj : done.testBit j = true := ((hdone j).1 hj).resolve_right hji
    have hbji : bj.testBit i = false := by
      cases h : bj.testBit i with
      | false => rfl
      | true => have := I.db j oj bj hdj hoj hbj i h; rw [hdi] at this; cases this
    have hbij : b.testBit j = false := by
      cases h : b.testBit j with
      | false => rfl
      | true => have := hbL j h; rw [hLj'] at this; cases this
    have hkj : keyOf fr j = keyOf fr j := rfl
    refine (I.pend j oj bj hdj hLj' hoj hbj).step hp ?_ ?_ ?_ (fun _ h => h) (fun _ _ h => h) (fun blk hm h => hka j _ blk hLj' hm h)
    · cases h : hasTmp o.dst (namesOf ops.toList oj) with
      | false => rfl
      | true =>
        rcases hN.names j bj oj hoj hbj i b o ho hb h with h1 | ⟨_, h1⟩
        · rw [hbji] at h1; cases h1
        · rw [hbij] at h1; cases h1
    · cases h : sameDst o.dst oj.dst with
      | false => rfl
      | true =>
        rcases Nat.lt_trichotomy i j with hlt | heq | hlt
        · have := (hN.dsts i o ho j bj oj hoj hbj hlt h).1
          rw [hbji] at this; cases this
        · exact absurd heq.symm hji
        · have := (hN.dsts j oj hoj i b o ho hb hlt (by rw [sameDst_symm]; exact h)).1
          rw [hbij] at this; cases this
    · intro v h1 h2
      exact ⟨h1, hrd j bj _ v hLj' h1 h2⟩
  · exact ⟨fun j k blk hm => ⟨by rw [(I.mad.1 j k blk hm).1, key_eq, key_eq, f1, f2], by rw [lor_spec, (I.mad.1 j k blk hm).2]; rfl⟩, I.mad.2⟩
  · exact I.ad.trans (hadv.mono fun k _ e => by rw [e]; exact hown)
  · intro k h1 h2 h3
    rw [f1, f2] at h1; rw [f1] at h2
    by_cases e : k = keyOf fr i
    · exact ⟨i, plus_iff.2 (.inr rfl), by rw [e, key_eq, key_eq, f1, f2]⟩
    · have hlt : k < s.fc * KK := Nat.lt_of_lt_of_le h2 (Nat.mul_le_mul_right _ I.fn)
      rw [hadv.keep k hlt e] at h3
      obtain ⟨j, h4, h5⟩ := I.fresh k h1 h2 h3
      exact ⟨j, plus_iff.2 (.inl h4), by rw [h5, key_eq, key_eq, f1, f2]⟩
  · rw [f1]; exact Nat.lt_of_lt_of_le I.fn hadv.fc
  · rw [f1]; exact I.fno
  · rw [f4, put_defers]; exact I.df.mono hadv.st.mono
  · rw [f2]; exact I.klt
  · rw [f5]; exact I.nrc
end
end Go.Ai

namespace Go.Ai
open Go
variable {P : Program} {G : Glob} {base : Nat}
section
variable {ops : Array Oper} {bs : List Nat} {fno : Nat} {rc0 : Rc} {ρ0 : Map} {s0 : St} {w0 : World} {rest : List DE} {done hv : Nat} {fr : Fr} {s : St} {z : Seen} {L : Nat → Bool} {frL : Fr} {ρ : Map} {a : Act} {w : World}

/-- A STEP THAT EVALUATION AND RUN TAKE TOGETHER. -/
theorem Inv.sync {call : CallF} (HC : CallOK P G base call) {n i b st : Nat} {o : Oper} {outs : List (Ex × Fr × St)} (I : Inv P G base ops bs fno rc0 ρ0 s0 w0 ((i, b, st, o) :: rest) done hv fr s z L frL ρ a w) (hN : NamesOk ops bs) (hB : Bef ops bs) (hbar : isBar o = true)
    (h : drawOps P G call ops n ((i, b, st, o) :: rest) done fr s z = some outs) (hed : ∀ e ∈ o.after.toList, Region.binds .any e = true → L e.on = true) {K : Act → World → Prop} {Q : Exit → Act → World → Prop}
    (hK : ∀ outs' hv' fr' s' frL' ρ' a' w', drawOps P G call ops n rest (Nat.lor done (2 ^ i)) fr' s' z = some outs' → (∀ x ∈ outs', x ∈ outs) → Inv P G base ops bs fno rc0 ρ0 s0 w0 rest (Nat.lor done (2 ^ i)) hv' fr' s' z (plus L i) frL' ρ' a' w' → K a' w')
    (hQ : ∀ v s' u w' ρ', (Ex.pan v, fr, s') ∈ outs → RV ρ' v u → RS G base KK ρ' fr s' a w' → Adv base (Own fno) ρ0 s0 w0 ρ' s' w' → Q (.panic [{ v := u, recovered := false }]) a w') : wpOp P ops Q i K a w := by
  obtain ⟨hdi, hbd, _⟩ := orderOk_head I.ok
  obtain ⟨ho, hb⟩ := I.ent _ List.mem_cons_self
  simp only at ho hb
  have hin : i < ops.size := (Array.getElem?_eq_some_iff.1 ho).1
  have hLi : L i = false := by
    cases h : L i with
    | false => rfl
    | true => have := I.ld i h; rw [hdi] at this; cases this
  have hbL := hB.sub I.cl i b o ho hb hed
  obtain ⟨hev, hw⟩ := I.agree hN hB ho hb hbL
  obtain ⟨hfresh, hkey, hown⟩ := I.key hin hLi
  have hnm : NoMade z i := fun k blk hm => by have := (I.mad.1 i k blk hm).2; rw [hdi] at this; cases this
  have hsame : ∀ h : Heap, addP (plus L i) h z.made = addP L h z.made := fun h => addP_congr fun j k blk hm => by
    have : j ≠ i := fun e => by subst e; exact hnm k blk hm
    simp [plus, this]
  have hputL : ∀ v fr', fr.put o.dst v = some fr' → ∃ frL', frL.put o.dst v = some frL' := fun v fr' hp => put_ok frL o.dst v (fun t ht => by rw [I.fe.2.2.1]; exact (put_some' hp).2.1 t ht)
  have plain : ∀ (v : AV) (u : Value) (fr' : Fr), RV ρ v u → fr.put o.dst v = some fr' → drawOps P G call ops n rest (Nat.lor done (2 ^ i)) fr' s z = some outs → K (a.put o.dst u) w := by
    intro v u fr' ru hp hk
    obtain ⟨frL', hpL⟩ := hputL v fr' hp
    obtain ⟨hv', I'⟩ := I.bar hN hLi hed hbL (s' := s) (ρ' := ρ) (w' := w) hp hpL ru (by rw [hsame]; exact Adv.refl I.rm.rh I.rm.hi) (fun _ _ _ _ _ _ h => h) (fun _ _ _ _ _ h => h)
    exact hK outs hv' fr' s frL' ρ _ w hk (fun _ h => h) I'
  unfold wpOp
  simp only [ho]
  rw [wantedA_sound I.rf ops o, hw]
  simp only [drawOps] at h
  split at h
  · rename_i hw0
    rw [hw0]
    simp only [Bool.false_eq_true, if_false]
    obtain ⟨fr', hp, hk⟩ := putK_spec h
    simp only [natC_eq] at hk
    exact plain .undef undef fr' (rv_undef _) hp hk
  · rename_i hw0
    rw [hw0]
    simp only [if_true]
    left
    unfold Oper.wp
    unfold dOne at h
    split at h
    · rename_i hc
      cases hv0 : pureOp P fr o.op with
      | none => rw [hv0] at h; cases h
      | some v =>
        rw [hv0] at h
        simp only [putV] at h
        obtain ⟨fr', hp, hk⟩ := putK_spec h
        simp only [natC_eq] at hk
        obtain ⟨u, hu, ru⟩ := pure_sound I.rf ((pure_cong hev).trans hv0)
        rw [hu w, Oper.upon_value]
        exact plain v u fr' ru hp hk
    · rename_i hc
      exfalso
      unfold isBar at hbar
      split at hbar
      · rename_i x e; rw [e] at hc; simp [clsOf] at hc
      · rw [(clsHeavy_iff o).1 hbar] at hc; cases hc
    · rename_i hc
      exfalso
      unfold isBar at hbar
      split at hbar
      · rename_i x e; rw [e] at hc; simp [clsOf] at hc
      · rw [(clsHeavy_iff o).1 hbar] at hc; cases hc
    · have hs1 : s.withH (addMade b s.h z.made) = ⟨addP (fun k => b.testBit k) s.h z.made, s.fc⟩ := by rw [St.withH_eq, addMade_eq]
      have hd2 : ∃ l, heavy P call fr (keyOf fr i) ⟨addP (fun k => b.testBit k) s.h z.made, s.fc⟩ o.op = some l ∧
          dHeavy2 P G o b done fr (addP (fun k => b.testBit k) s.h z.made) z (fun fr s z => natC (Nat.lor done (2 ^ i)) fun d => drawOps P G call ops n rest d fr s z) (some l) = some outs := by
        rw [hs1] at h
        unfold dHeavy at h
        split at h
        · cases h
        · cases hl : heavy P call fr (keyOf fr i) ⟨addP (fun k => b.testBit k) s.h z.made, s.fc⟩ o.op with
          | none => rw [hl] at h; cases h
          | some l => rw [hl] at h; exact ⟨l, rfl, h⟩
      obtain ⟨l, hl, hd2⟩ := hd2
      simp only [dHeavy2] at hd2
      have hsub : ∀ k ab, hget (addP (fun k => b.testBit k) s.h z.made) k = some ab → hget (addP L s.h z.made) k = some ab := fun k ab hg => I.mad.sub hbL hg
      have rm1 : RM G base ρ ⟨addP (fun k => b.testBit k) s.h z.made, s.fc⟩ w := ⟨I.rm.rh.sub fun k ab hg _ => hsub k ab hg, I.rm.rg, I.rm.bs, I.rm.hi⟩
      -- how a step there is a step here
      have lift : ∀ s' ρ' w', asideOk (addP (fun k => b.testBit k) s.h z.made) s'.h z.made = true → Adv base (fun k => k = keyOf fr i) ρ ⟨addP (fun k => b.testBit k) s.h z.made, s.fc⟩ w ρ' s' w' →
          Adv base (fun k => k = keyOf fr i) ρ ⟨addP L s.h z.made, s.fc⟩ w ρ' ⟨addP (plus L i) s'.h z.made, s'.fc⟩ w' := by
        intro s' ρ' w' has hadv
        refine ⟨Stp.frame I.rm.rh hsub hadv.st fun k ab hg hd => ?_, hadv.fc, hadv.keep, hadv.hi⟩
        rw [hsame] at hg
        simp only at hg
        rw [addP_get] at hg
        cases hh : hget s'.h k with
        | some x => rw [hh] at hg; left; simpa using hg
        | none =>
          right
          rw [hh, Option.none_or] at hg
          obtain ⟨j, hm, hj⟩ := lookM_some hg
          have h1 := (asideOk_spec has j k ab hm).2 hh
          refine ⟨h1, ?_⟩
          show hget (addP L s.h z.made) k = some ab
          rw [addP_get] at h1 ⊢
          cases hq : hget s.h k with
          | some x => rw [hq] at h1; simp at h1
          | none => rw [Option.none_or]; exact hg
      refine heavy_sound HC rm1 I.rf hfresh hkey ((heavy_cong hev).trans hl) ?_ ?_
      · intro v s' u w' ρ' hm hadv ru
        obtain ⟨o', h1, h2⟩ := drawOuts_val hd2 hm
        split at h1
        · rename_i hr1 hr2
          obtain ⟨fr', hp, hk⟩ := putK_spec h1
          simp only [natC_eq] at hk
          obtain ⟨frL', hpL⟩ := hputL v fr' hp
          obtain ⟨hv', I'⟩ := I.bar hN hLi hed hbL (s' := s') (ρ' := ρ') (w' := w') hp hpL ru (lift s' ρ' w' hr2 hadv) (fun j bj oj vj hLj hm _ => readsOk_spec hr1 bj oj vj (readsLeft_mem hm (by
              cases hq : b.testBit j with
              | false => rfl
              | true => have := hbL j hq; rw [hLj] at this; cases this))) (fun j k blk hLj hm hn => by
              refine (asideOk_spec hr2 j k blk hm).1 ?_
              rw [addP_get, hn, Option.none_or]
              cases hq : lookM (fun k => b.testBit k) k z.made with
              | none => rfl
              | some x =>
                obtain ⟨j', h3, h4⟩ := lookM_some hq
                have e1 := (I.mad.1 _ _ _ h3).1
                have e2 := (I.mad.1 _ _ _ hm).1
                have := key_inj (e1.symm.trans e2)
                subst this
                have := hbL j' h4
                rw [hLj] at this; cases this)
          exact hK o' hv' fr' s' frL' ρ' _ w' hk h2 I'
        · cases h1
      · intro v s' u w' ρ' hm hadv ru
        obtain ⟨h1, h2⟩ := drawOuts_pan hd2 hm
        have hall : ∀ j, done.testBit j = true → L j = true := fun j hj => hbL j (covers_spec h1 hj)
        have hbL' : addP (fun k => b.testBit k) s.h z.made = addP L s.h z.made := addP_congr fun j k blk hm => by
          have hdj := (I.mad.1 j k blk hm).2
          rw [covers_spec h1 hdj, hall j hdj]
        rw [hbL'] at hadv
        have hadv' : Adv base (Own fno) ρ0 s0 w0 ρ' s' w' := I.ad.trans (hadv.mono fun k _ e => by rw [e]; exact hown)
        have rf' : RF ρ' fr a := by
          have rfL := I.rf.mono hadv.st.mono
          refine ⟨by rw [rfL.size, I.fe.2.2.1], fun t => ?_⟩
          rw [← I.ag t fun j oj hoj hd hdj => hall j hdj]
          exact rfL.tmp t
        refine hQ v s' u w' ρ' h2 ru ⟨rf', I.rm.adv hadv, fun k h3 h4 => ?_, Nat.lt_of_lt_of_le I.fn hadv.fc, I.df.mono hadv.st.mono⟩ hadv'
        rw [succ_KK] at h4; omega
end
end Go.Ai

namespace Go.Ai
open Go
variable {P : Program} {G : Glob} {base : Nat}

def lst (listed : Array Bool) (i : Nat) : Bool := listed.getD i false
theorem lst_set {listed : Array Bool} {i : Nat} (h : i < listed.size) : lst (listed.setIfInBounds i true) = plus (lst listed) i := by
  funext k
  by_cases e : i = k
  · subst e; simp [lst, plus, h]
  · have : ¬ k = i := fun h => e h.symm
    simp only [lst, plus, decide_eq_false this, Bool.or_false]
    exact getD_set_ne false e

theorem all_listed {ops : Array Oper} {bs : List Nat} (hB : Bef ops bs) {L : Nat → Bool} (hr : ∀ i o, ops[i]? = some o → (∀ e ∈ o.after.toList, Region.binds .any e = true → L e.on = true) → L i = true) :
    ∀ {l : List DE} {done hv : Nat}, (∀ x ∈ l, ops[x.1]? = some x.2.2.2 ∧ bs[x.1]? = some x.2.1) → orderOk (Nat.sub (2 ^ ops.toList.length) 1) l done hv = true → (∀ j, done.testBit j = true → L j = true) → ∀ j, j < ops.size → L j = true
  | [], done, hv, _, h, hd, j, hj => by
    rcases orderOk_mem h j (by simpa using hj) with e | ⟨x, hx, _⟩
    · exact hd j e
    · cases hx
  | (i, b, st, o) :: r, done, hv, hent, h, hd, j, hj => by
    obtain ⟨hdi, hbd, hv', hok, _⟩ := orderOk_head h
    obtain ⟨ho, hb⟩ := hent _ List.mem_cons_self
    simp only at ho hb
    have hLi : L i = true := hr i o ho fun e he hbi => hd _ (hbd _ ((hB.spec i b o ho hb e.on).2 ⟨e, he, hbi, .inl rfl⟩))
    refine all_listed hB hr (fun x hx => hent x (List.mem_cons_of_mem _ hx)) hok (fun k hk => ?_) j hj
    rw [lor_spec, Bool.or_eq_true, decide_eq_true_eq] at hk
    rcases hk with h | h
    · exact hd k h
    · rw [← h]; exact hLi

theorem readOf_nil {ops : Array Oper} {listed : Array Bool} (hsz : listed.size = ops.size) (h : Region.ready .any ops listed = []) (i : Nat) (o : Oper) (ho : ops[i]? = some o) (hed : ∀ e ∈ o.after.toList, Region.binds .any e = true → lst listed e.on = true) : lst listed i = true := by
  cases hl : lst listed i with
  | true => rfl
  | false =>
    have hi : i < listed.size := by rw [hsz]; exact (Array.getElem?_eq_some_iff.1 ho).1
    have : i ∈ Region.ready .any ops listed := mem_ready.2 ⟨by simpa [lst, hi] using hl, o, ho, fun e he hb => hed e (by simpa using he) hb⟩
    rw [h] at this; cases this

section
variable {ops : Array Oper} {bs : List Nat} {fno : Nat} {rc0 : Rc} {ρ0 : Map} {s0 : St} {w0 : World}

/-- at the end -/
theorem Inv.fin {call : CallF} {rest : List DE} {done hv : Nat} {fr : Fr} {s : St} {z : Seen} {L : Nat → Bool} {frL : Fr} {ρ : Map} {a : Act} {w : World} {outs OUTS : List (Ex × Fr × St)} {cs0 cs : List Frame} (I : Inv P G base ops bs fno rc0 ρ0 s0 w0 rest done hv fr s z L frL ρ a w)
    (h : drawOps P G call ops ops.toList.length rest done fr s z = some outs) (hsub : ∀ x ∈ outs, x ∈ OUTS) (hcs : RCx ρ0 rc0 cs0 cs) (hall : ∀ j, j < ops.size → L j = true) : Post G base cs0 fno rc0 ρ0 s0 w0 OUTS .normal a cs w := by
  cases rest with
  | cons x r =>
    obtain ⟨i, b, st, o⟩ := x
    obtain ⟨hdi, _⟩ := orderOk_head I.ok
    obtain ⟨ho, _⟩ := I.ent _ List.mem_cons_self
    simp only at ho
    have := I.ld i (hall i (Array.getElem?_eq_some_iff.1 ho).1)
    rw [hdi] at this; cases this
  | nil =>
    simp only [drawOps, Option.some.injEq] at h
    subst h
    have hdone : ∀ j, done.testBit j = true → L j = true := fun j hj => hall j (I.dl j hj)
    have hA : s.withH (addAll s.h z.made) = ⟨addP L s.h z.made, s.fc⟩ := by
      rw [St.withH_eq, addAll_eq]
      congr 1
      exact addP_congr fun j k blk hm => (hdone j (I.mad.1 j k blk hm).2).symm
    have rf : RF ρ fr a := ⟨by rw [I.rf.size, I.fe.2.2.1], fun t => by rw [← I.ag t fun j oj hoj hd hdj => hdone j hdj]; exact I.rf.tmp t⟩
    have rs : RS G base ops.toList.length ρ fr ⟨addP L s.h z.made, s.fc⟩ a w := ⟨rf, I.rm, fun k h1 h2 => by
      cases hρ : ρ k with
      | none => rfl
      | some x =>
        obtain ⟨i, h3, h4⟩ := I.fresh k (by omega) h2 (by rw [hρ]; simp)
        have := I.dl i (I.ld i h3)
        rw [key_eq] at h4
        simp only [Array.length_toList] at h1
        omega, I.fn, I.df⟩
    obtain ⟨h1, h2, h3⟩ := bump_rs rs
    rw [hA] at hsub
    exact ⟨.normal, fr.bump ops.toList.length, _, ρ, hsub _ (List.mem_singleton.2 rfl), rfl, h1, I.ad, h2.trans I.fno, by rw [h3, I.nrc]; exact hcs.mono I.ad.st.mono, fun b hb => by rw [h3, I.nrc]; exact hb, fun h => by rw [h3, I.nrc]; exact h⟩

theorem any_sound {call : CallF} (HC : CallOK P G base call) (hN : NamesOk ops bs) (hB : Bef ops bs) {order : List DE} (hent : ∀ x ∈ order, ops[x.1]? = some x.2.2.2 ∧ bs[x.1]? = some x.2.1) (hord : orderOk (Nat.sub (2 ^ ops.toList.length) 1) order 0 0 = true)
    {cs0 cs : List Frame} {OUTS : List (Ex × Fr × St)} (hcs : RCx ρ0 rc0 cs0 cs) : ∀ (fuel : Nat) (listed : Array Bool) (U : List Nat) (rest : List DE) (done hv : Nat) (fr : Fr) (s : St) (z : Seen) (frL : Fr) (ρ : Map) (a : Act) (w : World) (outs : List (Ex × Fr × St)),
      listed.size = ops.size → U.length ≤ fuel → (∀ i, i < ops.size → lst listed i = false → i ∈ U) → Inv P G base ops bs fno rc0 ρ0 s0 w0 rest done hv fr s z (lst listed) frL ρ a w → drawOps P G call ops ops.toList.length rest done fr s z = some outs → (∀ x ∈ outs, x ∈ OUTS) →
      wpAny P .any ops (fun e a' w' => Post G base cs0 fno rc0 ρ0 s0 w0 OUTS e a' cs w') fuel listed a w := by
  intro fuel
  induction fuel with
  | zero =>
    intro listed U rest done hv fr s z frL ρ a w outs hsz hU hUn I h hsub
    have hall : ∀ j, j < ops.size → lst listed j = true := fun j hj => by
      cases hl : lst listed j with
      | true => rfl
      | false =>
        have := hUn j hj hl
        rw [List.length_eq_zero_iff.1 (Nat.le_zero.1 hU)] at this; cases this
    refine ⟨?_, I.fin h hsub hcs hall⟩
    cases hr : Region.ready .any ops listed with
    | nil => rfl
    | cons x xs =>
      have : x ∈ Region.ready .any ops listed := by rw [hr]; exact List.mem_cons_self
      obtain ⟨h1, o, ho, _⟩ := mem_ready.1 this
      have hx := (Array.getElem?_eq_some_iff.1 ho).1
      have h2 := hall x hx
      have hx' : x < listed.size := by rw [hsz]; exact hx
      simp [lst, hx'] at h1 h2
      rw [h1] at h2; cases h2
  | succ fuel ih =>
    intro listed U rest done hv fr s z frL ρ a w outs hsz hU hUn I h hsub
    refine ⟨fun hr => I.fin h hsub hcs (all_listed hB (readOf_nil hsz hr) hent hord fun j hj => by simp at hj), fun j hj => ?_⟩
    obtain ⟨h1, o, ho, hed⟩ := mem_ready.1 hj
    have hjn := (Array.getElem?_eq_some_iff.1 ho).1
    have hjs : j < listed.size := by rw [hsz]; exact hjn
    have hLj : lst listed j = false := by simpa [lst, hjs] using h1
    have hed' : ∀ e ∈ o.after.toList, Region.binds .any e = true → lst listed e.on = true := fun e he hb => hed e (by simpa using he) hb
    have hjb : j < bs.length := by rw [hB.len]; exact hjn
    have hb : bs[j]? = some bs[j] := by simp [hjb]
    have hUe : (U.erase j).length ≤ fuel := by
      have := hUn j hjn hLj
      rw [List.length_erase_of_mem this]; omega
    have hUn' : ∀ i, i < ops.size → lst (listed.setIfInBounds j true) i = false → i ∈ U.erase j := fun i hi hl => by
      rw [lst_set hjs] at hl
      have hij : i ≠ j := fun e => by rw [plus_iff.2 (.inr e)] at hl; cases hl
      have hl' : lst listed i = false := by
        cases hq : lst listed i with
        | false => rfl
        | true => rw [plus_iff.2 (.inl hq)] at hl; cases hl
      exact (List.mem_erase_of_ne hij).2 (hUn i hi hl')
    obtain ⟨rest', done', hv', fr', z', h', I', hstop⟩ := Inv.advance hN rest done hv fr z h I
    by_cases hdj : done'.testBit j = true
    · exact I'.pending hN hB ho hb hdj hLj hed' fun frL' ρ' a' w' I2 =>
        ih (listed.setIfInBounds j true) (U.erase j) rest' done' hv' fr' s z' frL' ρ' a' w' outs (by simp [hsz]) hUe hUn' (by rw [lst_set hjs]; exact I2) h' hsub
    · -- it is the first of those that are left
      rcases orderOk_mem I'.ok j (by simpa using hjn) with e | ⟨x, hx, hxj⟩
      · exact absurd e hdj
      · cases rest' with
        | nil => cases hx
        | cons y r =>
          obtain ⟨i, b, st, o'⟩ := y
          obtain ⟨hdi, hbd, hv2, hok2, hbar2⟩ := orderOk_head I'.ok
          have hbar : isBar o' = true := hstop
          have hji : j = i := by
            rcases List.mem_cons.1 hx with e | e
            · rw [e] at hxj; exact hxj.symm
            · exfalso
              have h3 := orderOk_hv hok2 x e i (hbar2 hbar)
              obtain ⟨hxo, hxb⟩ := I'.ent x (List.mem_cons_of_mem _ e)
              rw [hxj] at hxo hxb
              rw [ho] at hxo; cases hxo
              have := hB.sub I'.cl j x.2.1 _ ho hxb hed' i h3
              have := I'.ld i this
              rw [hdi] at this; cases this
          subst hji
          obtain ⟨hyo, hyb⟩ := I'.ent _ List.mem_cons_self
          simp only at hyo
          rw [ho] at hyo; cases hyo
          refine I'.sync HC hN hB hbar h' hed' ?_ ?_
          · intro outs' hv3 fr3 s3 frL3 ρ3 a3 w3 hk hs I3
            exact ih (listed.setIfInBounds j true) (U.erase j) r _ hv3 fr3 s3 z' frL3 ρ3 a3 w3 outs' (by simp [hsz]) hUe hUn' (by rw [lst_set hjs]; exact I3) hk (fun x hx => hsub x (hs x hx))
          · intro v s3 u w3 ρ3 hm ru rs hadv
            exact ⟨.pan v, fr', s3, ρ3, hsub _ hm, ⟨u, ru, rfl⟩, rs, hadv, I'.fno, by rw [I'.nrc]; exact hcs.mono hadv.st.mono, fun b hb => by rw [I'.nrc]; exact hb, fun h => by rw [I'.nrc]; exact h⟩

theorem drawn_any {call : CallF} (HC : CallOK P G base call) {fr : Fr} {s : St} {ρ : Map} {a : Act} {w : World} {outs : List (Ex × Fr × St)} {cs0 cs : List Frame} (h : drawn P G call ops (theOrder ops.toList) fr s = some outs) (hk : fr.lc + ops.size < KK)
    (rs : RS G base 0 ρ fr s a w) (hcs : RCx ρ fr.rc cs0 cs) : wpAny P .any ops (fun e a' w' => Post G base cs0 fr.fno fr.rc ρ s w outs e a' cs w') ops.size (Array.replicate ops.size false) a { w with drawn := w.drawn + 1 } := by
  unfold drawn at h
  split at h
  · rename_i hok
    unfold drawOk at hok
    split at hok
    · rename_i hord
      have hB := bef_befores ops
      have hN := namesAll_ok hB.len hok
      have hz : ∀ k : Nat, lst (Array.replicate ops.size false) k = false := fun k => by
        by_cases hk : k < ops.size <;> simp [lst, hk]
      have hL : addP (lst (Array.replicate ops.size false)) s.h [] = s.h := rfl
      have rm' : RM G base ρ s w.drew := ⟨⟨rs.rm.rh.blk, rs.rm.rh.inj⟩, rs.rm.rg, rs.rm.bs, rs.rm.hi⟩
      have I : Inv P G base ops (befores ops.toList []) fr.fno fr.rc ρ s w (theOrder ops.toList) 0 0 fr s ⟨[], []⟩ (lst (Array.replicate ops.size false)) fr ρ a w.drew :=
        ⟨fun x hx => theOrder_mem hx, hord, (fun i o h _ => absurd h (by simp [hz])), (fun i h => absurd h (by simp)), (fun i o b h => absurd h (by simp)), (fun i h => absurd h (by simp [hz])), (fun i o h => absurd h (by simp)), ⟨rfl, rfl, rfl, rfl, rfl⟩, rs.rf, fun _ _ => rfl, (fun i o b h => absurd h (by simp)),
          ⟨(fun j k blk h => absurd h (by simp)), (fun j k blk k' blk' h => absurd h (by simp))⟩, by rw [hL]; exact rm', by
            rw [hL]
            exact ⟨Stp.draw rs.rm.rh, Nat.le_refl _, fun _ _ _ => rfl, rs.rm.hi⟩, fun k h1 h2 h3 => absurd (rs.lo k (by omega) h2) h3, rs.fn, rfl, rs.df, hk, rfl⟩
      exact any_sound HC hN hB (fun x hx => theOrder_mem hx) hord hcs ops.size _ (List.range ops.size) _ 0 0 fr s _ fr ρ a _ outs (by simp) (by simp) (fun i hi _ => List.mem_range.2 hi) I h (fun _ h => h)
    · cases hok
  · cases h

/-- A REGION THAT DRAWS ITS ORDER. -/
theorem drawn_sound {call : CallF} (HC : CallOK P G base call) (hm : P.follows .mixedOrders = true) {id : Nat} {fr : Fr} {s : St} {ρ : Map} {a : Act} {w : World} {outs : List (Ex × Fr × St)} {cs0 cs : List Frame} (h : drawn P G call ops (theOrder ops.toList) fr s = some outs) (hk : fr.lc + ops.size < KK)
    (rs : RS G base 0 ρ fr s a w) (hcs : RCx ρ fr.rc cs0 cs) : (Code.region id ops true).wp P (fun e a' w' => Post G base cs0 fr.fno fr.rc ρ s w outs e a' cs w') a w :=
  wp_region_any hm (drawn_any HC h hk rs hcs)
theorem post_in {cs0 cs : List Frame} {fno : Nat} {rc : Rc} {ρ : Map} {s : St} {w : World} {outs : List (Ex × Fr × St)} (a' : Act) (w' : World) : ¬ Post G base cs0 fno rc ρ s w outs .outgrown a' cs w' := by
  rintro ⟨x, _, _, _, _, h, _⟩
  cases x with
  | normal => cases h
  | exit _ => cases h
  | ret => cases h
  | pan v => obtain ⟨_, _, h⟩ := h; cases h
theorem drawn_soundR {call : CallF} (HC : CallOK P G base call) (hm : P.follows .mixedOrders = true) {r id : Nat} {fr : Fr} {s : St} {ρ : Map} {a : Act} {w : World} {outs : List (Ex × Fr × St)} {cs0 cs : List Frame} (hok : okOps ops.toList = true) (h : drawn P G call ops (theOrder ops.toList) fr s = some outs) (hk : fr.lc + ops.size < KK)
    (rs : RS G base 0 ρ fr s a w) (hcs : RCx ρ fr.rc cs0 cs) : (Code.region id ops true).wpIn (Fence.wide.inRound r) 0 P (fun e a' w' => Post G base cs0 fr.fno fr.rc ρ s w outs e a' cs w') a w :=
  wpIn_region_draw fun t => by
    simp only [Region.schedule, hm, Bool.true_or, if_true]
    exact ops_round hok _ _ _ (ops_wide post_in _ _ _ (wpAny_sound ops.size t _ a _ (drawn_any HC h hk rs hcs)))
end
end Go.Ai

/-! A range over a function. -/
namespace Go.Ai
open Go
variable {P : Program} {G : Glob} {base : Nat}

theorem keysOk_spec {fr : Fr} {n : Nat} (h : keysOk fr n = true) : fr.lc + n < KK := by
  have h : fr.lc + n ≤ 1267650600228229401496703205375 := by
    unfold keysOk at h
    exact Nat.le_of_ble_eq_true h
  unfold KK; omega

section
variable {ρ : Map} {fr : Fr} {a : Act} {s : St} {w : World}

/-- one block is another: no cells -/
theorem upd_adv (rm : RM G base ρ s w) {k : Nat} {ab ab' : AB} {e : Ent} {ob' : Obj} (hg : hget s.h k = some ab) (hd : Mine ab) (hd' : NoRom ab') (he : ρ k = some e) (rb : RB ρ e ab' ob') :
    Adv base (fun _ => False) ρ s w ρ (s.upd k ab') (w.putObj e.b ob') := by
  have hlt := rm.rh.size hg hd.nd he
  have hst : Stp ρ base (hget s.h) w ρ (hget (hset s.h k ab')) (w.putObj e.b ob') :=
    Stp.upd rm.rh hg hd hd' he rfl rfl rfl World.putObj_size (World.putObj_heap_same hlt) (fun b hb => World.putObj_heap_other hb) rb
  refine ⟨by rw [St.upd_eq]; exact hst, by rw [St.upd_eq]; exact Nat.le_refl _, fun _ _ _ => rfl, by rw [St.upd_eq]; exact rm.hi⟩
theorem new_adv (rm : RM G base ρ s w) {k : Nat} {ab : AB} {ob : Obj} (hk : ρ k = none) (hkey : k < s.fc * KK) (hrom : NoRom ab) (rb : RB (ext ρ k ⟨w.heap.size, 0, 0⟩) ⟨w.heap.size, 0, 0⟩ ab ob) :
    Adv base (fun j => j = k) ρ s w (ext ρ k ⟨w.heap.size, 0, 0⟩) (s.upd k ab) (w.alloc ob) := by
  have hst := Stp.new rm.rh hk rm.bs hrom rb
  refine ⟨by rw [St.upd_eq]; exact hst, by rw [St.upd_eq]; exact Nat.le_refl _, fun i _ hn => by simp only [ext]; rw [if_neg hn], fun i hi => ?_⟩
  rw [St.upd_eq] at hi
  have hi : s.fc * KK ≤ i := hi
  simp only [ext]; rw [if_neg (by omega)]; exact rm.hi i hi
theorem RS.call {n : Nat} {ρ' : Map} {s' : St} {w' : World} (r : RS G base n ρ fr s a w) (h : Adv base (fun _ => False) ρ s w ρ' s' w') : RS G base n ρ' fr s' a w' :=
  ⟨r.rf.mono h.st.mono, r.rm.adv h, fun i h1 h2 => by
    have : (fr.fno + 1) * KK ≤ s.fc * KK := Nat.mul_le_mul_right KK r.fn
    rw [h.keep i (by omega) (fun h => h)]; exact r.lo i h1 h2, Nat.lt_of_lt_of_le r.fn h.fc, r.df.mono h.st.mono⟩
theorem Adv.own {ρ' : Map} {s' : St} {w' : World} {f : Nat} (h : Adv base (fun _ => False) ρ s w ρ' s' w') : Adv base (Own f) ρ s w ρ' s' w' := h.mono fun _ _ h => h.elim

theorem stOf_busy {st : Nat} (h : Nat.beq st 1 = false) : stOf st ≠ .busy := by
  match st with
  | 0 => simp [stOf]
  | 1 => simp at h
  | 2 => simp [stOf]
  | n + 3 => simp [stOf]

/-- A RANGE OVER A FUNCTION. -/
theorem range_sound {call : CallF} (HC : CallOK P G base call) (hn : NoNum P) {g : Operand} {ps : Array Tmp} {as' bd : Code} {outs : List (Ex × Fr × St)} {cs0 cs : List Frame} (h : rangeF P call g ps as' bd fr s = some outs)
    (rs : RS G base 0 ρ fr s a w) (hcs : RCx ρ fr.rc cs0 cs) : (Code.rangeFunc g ps as' bd).wp P (fun e a' w' => Post G base cs0 fr.fno fr.rc ρ s w outs e a' cs w') a w := by
  unfold rangeF at h
  split at h
  · rename_i hrc hk
    have hk := keysOk_spec hk
    unfold rangeG at h
    split at h
    · rename_i gf first captured hg
      split at h
      · rename_i hb
        simp only [natC_eq] at h
        obtain ⟨first', cap', r1, r2, hgv⟩ := rs.rf.ev hg
        have hfn : ∃ fn c, P.funcs[gf]? = some fn ∧ fn.body = some c := by
          unfold hasBody at hb
          split at hb
          · rename_i fn hf
            split at hb
            · rename_i c hc; exact ⟨fn, c, by simpa using hf, hc⟩
            · cases hb
          · cases hb
        obtain ⟨fn, c, hf, hc⟩ := hfn
        refine (wpIn_wide (n := 0)).1 (wpIn_rangeFunc fun fnid _ => ?_)
        -- the mark
        obtain ⟨k1, k2, k3⟩ := rs.key (i := 0) (by omega)
        have ad1 := new_adv (ab := .defs true) (ob := .deferred (some [])) rs.rm k1 k2 (by simp) rfl
        obtain ⟨rs1, _⟩ := rs.next (dst := none) (fr' := fr) (v := .undef) (u := undef) ad1 rfl (rv_undef _)
        generalize hρ1 : ext ρ (keyOf fr 0) ⟨w.heap.size, 0, 0⟩ = ρ1 at ad1 rs1
        generalize hs1 : s.upd (keyOf fr 0) (.defs true) = s1 at ad1 rs1 h
        have hw1 : (w.alloc (.deferred (some []))).heap.size = w.heap.size + 1 := World.size_alloc _ _
        -- the record
        obtain ⟨l1, l2, l3⟩ := rs1.key (i := 1) (by omega)
        have ad2 := new_adv (ab := .loop 0 none fr.n fr.t ps.toList as' bd) (ob := .loop { state := .ready, pending := none, fn := fnid, tmps := a.tmps, params := ps, assign := as', body := bd, defers := w.heap.size }) rs1.rm l1 l2 (by simp)
          ⟨fnid, a.tmps, w.heap.size, by simp [stOf], rs.rf.size, fun i => RV.mono ((ad1.st.mono).trans (ext_mono l1)) _ _ (rs.rf.tmp i)⟩
        obtain ⟨rs2, _⟩ := rs1.next (dst := none) (fr' := fr) (v := .undef) (u := undef) ad2 rfl (rv_undef _)
        generalize hρ2 : ext ρ1 (keyOf fr 1) ⟨(w.alloc (.deferred (some []))).heap.size, 0, 0⟩ = ρ2 at ad2 rs2
        generalize hs2 : s1.upd (keyOf fr 1) (.loop 0 none fr.n fr.t ps.toList as' bd) = s2 at ad2 rs2 h
        have hen := run_enterLoop_outer (P := P) (w := w) fnid a.tmps ps as' bd
        generalize hW2 : (w.alloc (.deferred (some []))).alloc (.loop { state := .ready, pending := none, fn := fnid, tmps := a.tmps, params := ps, assign := as', body := bd, defers := w.heap.size }) = W2 at ad2 rs2 hen
        have el : ρ2 (keyOf fr 1) = some ⟨w.heap.size + 1, 0, 0⟩ := by rw [← hρ2, hw1]; exact ext_self _ _
        have ed : ρ2 (keyOf fr 0) = some ⟨w.heap.size, 0, 0⟩ := ad2.st.mono _ _ (by rw [← hρ1]; exact ext_self _ _)
        obtain ⟨rs3, e1, e2⟩ := bump_rs rs2
        have ad12 : Adv base (Own fr.fno) ρ s w ρ2 s2 W2 := (ad1.mono fun i _ e => by rw [e]; exact k3).trans (ad2.mono fun i _ e => by rw [e]; exact l3)
        -- the frame from here on
        have rs4 : RS G base 0 ρ2 ((fr.bump 2).defer (.yl (keyOf fr 0), [])) s2 { a with defers := [{ target := .collected w.heap.size, args := #[] }] ++ a.defers } W2 :=
          ⟨⟨rs3.rf.size, rs3.rf.tmp⟩, rs3.rm, rs3.lo, rs3.fn, _, _, .inr ⟨_, _, rfl, ed, rfl⟩, rs3.df, rfl⟩
        have e1' : ((fr.bump 2).defer (.yl (keyOf fr 0), [])).fno = fr.fno := e1
        have e2' : ((fr.bump 2).defer (.yl (keyOf fr 0), [])).rc = fr.rc := e2
        generalize hfr : (fr.bump 2).defer (.yl (keyOf fr 0), []) = fr2 at rs4 e1' e2' h
        refine ⟨w.heap.size + 1, [{ target := .collected w.heap.size, args := #[] }], W2, { target := .fn (.func gf) cap'.toArray, args := first'.toArray ++ #[Value.func (.yield (w.heap.size + 1)) #[] #[]] }, W2, gf, (first' ++ [Value.func (.yield (w.heap.size + 1)) #[] #[]] ++ cap').toArray, W2, hen, ?_, (fun _ _ => trivial), ?_, (fun h => by simp [Fence.wide] at h), ?_⟩
        · simp only [resolve, hgv, Deferred.ofValue, Sem.run_pure]
          have : Array.map a.eval #[Operand.const (Value.func (Fn.yield (w.heap.size + 1)) #[] #[])] = #[Value.func (Fn.yield (w.heap.size + 1)) #[] #[]] := by simp [Act.eval]
          rw [this]
        · simp only [invoke]
          have : first'.toArray ++ #[Value.func (.yield (w.heap.size + 1)) #[] #[]] ++ cap'.toArray = (first' ++ [Value.func (.yield (w.heap.size + 1)) #[] #[]] ++ cap').toArray := by apply Array.toList_inj.1; simp
          rw [this]
          exact callFunc_enter hn hf hc _ _
        · refine callsIn_wide.2 ?_
          cases hcall : call gf (first ++ [.yl (keyOf fr 1)] ++ captured) s2 with
          | none => rw [hcall] at h; cases h
          | some l0 =>
            rw [hcall] at h
            simp only [rangeE] at h
            have rv : RVs ρ2 (first ++ [.yl (keyOf fr 1)] ++ captured) (first' ++ [Value.func (.yield (w.heap.size + 1)) #[] #[]] ++ cap') :=
              RVs.append (RVs.append (RVs.mono ad12.st.mono _ _ r1) ⟨_, _, ⟨_, el, rfl⟩, rfl, rfl⟩) (RVs.mono ad12.st.mono _ _ r2)
            have hm := HC.fn _ _ _ _ hcall ρ2 _ _ rv rs2.rm
            rw [callFunc_enter hn hf hc] at hm
            refine Calls.mono (hm : Calls P gf _ _ _) ?_
            rintro e w' ⟨ρ', ⟨v, s', u, hin, he, ru, hadv⟩ | ⟨v, s', u, hin, he, ru, hadv⟩⟩
            · subst he
              obtain ⟨o', h1, h2⟩ := outsTo_val h hin
              have rs5 := rs4.call hadv
              have ad := ad12.trans hadv.own
              unfold endL at h1
              split at h1
              · rename_i st j n t ps' as2 bd2 hgl
                obtain ⟨e0, ob, q1, q2, q3, fn', tmps', d', q4, q5, q6⟩ := rs5.rm.rh.blk _ _ hgl (by simp)
                rw [hadv.st.mono _ _ el] at q1
                cases q1
                subst q4
                have fin : Nat.beq st 1 = false → ∀ (x : Ex), o' = [(x, fr2, s'.upd (keyOf fr 1) (.loop 3 j n t ps' as2 bd2))] → offOf x = 0 → ∀ ex, RX ρ' x ex →
                    Post G base cs0 fr.fno fr.rc ρ s w outs ex { a with defers := [{ target := .collected w.heap.size, args := #[] }] ++ a.defers } cs (w'.putObj (w.heap.size + 1) (.loop { state := .exhausted, pending := j, fn := fn', tmps := tmps', params := ps'.toArray, assign := as2, body := bd2, defers := d' })) := by
                  intro _ x hx hoff ex hrx
                  have ad3 := upd_adv (ab' := .loop 3 j n t ps' as2 bd2) (ob' := .loop { state := .exhausted, pending := j, fn := fn', tmps := tmps', params := ps'.toArray, assign := as2, body := bd2, defers := d' }) rs5.rm hgl (by simp) (by simp) (hadv.st.mono _ _ el) ⟨fn', tmps', d', rfl, q5, q6⟩
                  have rs6 := rs5.call ad3
                  refine ⟨x, fr2, _, ρ', h2 _ (by rw [hx]; exact List.mem_singleton.2 rfl), hrx, by rw [hoff]; exact rs6, ad.trans ad3.own, e1', by rw [e2']; exact hcs.mono ad.st.mono, fun b hb => by rw [e2']; exact hb, fun hh => by rw [e2']; exact hh⟩
                split at h1
                · rename_i hbz
                  cases h1
                  exact ⟨none, _, run_endLoop q3 (stOf_busy hbz), fin hbz .normal rfl rfl .normal rfl⟩
                · rename_i hbz
                  cases h1
                  exact ⟨some .ret, _, run_endLoop q3 (stOf_busy hbz), wpIn_ret (fin hbz .ret rfl rfl .ret rfl)⟩
                · rename_i id hbz
                  cases h1
                  exact ⟨some (.exit id), _, run_endLoop q3 (stOf_busy hbz), wpIn_exit (fin hbz (.exit id) rfl rfl (.exit id) rfl)⟩
                · cases h1
              · cases h1
            · subst he
              have hin' := outsTo_pan h hin
              have rs5 := rs4.call hadv
              have ad := ad12.trans hadv.own
              exact ⟨.pan v, fr2, s', ρ', hin', ⟨u, ru, rfl⟩, rs5.over, ad, e1', by rw [e2']; exact hcs.mono ad.st.mono, fun b hb => by rw [e2']; exact hb, fun hh => by rw [e2']; exact hh⟩
      · cases h
    · cases h
  · cases h
end
end Go.Ai

namespace Go.Ai
open Go
variable {P : Program} {G : Glob} {base : Nat}

/-- code of a frame of the kind F -/
def WP (P : Program) (F : Frame → Prop) (c : Code) (Q : Exit → Act → List Frame → World → Prop) (a : Act) (cs : List Frame) (w : World) : Prop :=
  ∀ (b : Frame) (k : List Item), F b → ∃ e a' cs' w', Q e a' cs' w' ∧ Arrives P (lone (b.at a (.code c :: k)) cs w) b k cs' e a' w'

section
variable {F : Frame → Prop} {Q : Exit → Act → List Frame → World → Prop} {a : Act} {cs : List Frame} {w : World}

theorem WP.of_wp {c : Code} (h : c.wp P (fun e a' w' => Q e a' cs w') a w) : WP P F c Q a cs w :=
  fun b k _ => let ⟨e, a', w', q, r⟩ := h b k cs; ⟨e, a', cs, w', q, r⟩
theorem WP.of_wpS {c : Code} (hF : ∀ b, F b → b.kind = .deferred ∧ b.roundOf = none) (h : c.wpS P Q a cs w) : WP P F c Q a cs w :=
  fun b k hb => h b k (hF b hb).1 (hF b hb).2
theorem WP.kind {F' : Frame → Prop} {c : Code} (h : WP P F' c Q a cs w) (hF : ∀ b, F b → F' b) : WP P F c Q a cs w := fun b k hb => h b k (hF b hb)
theorem WP.mono {c : Code} {Q' : Exit → Act → List Frame → World → Prop} (h : WP P F c Q a cs w) (hq : ∀ e a' cs' w', Q e a' cs' w' → Q' e a' cs' w') : WP P F c Q' a cs w :=
  fun b k hb => let ⟨e, a', cs', w', q, r⟩ := h b k hb; ⟨e, a', cs', w', hq _ _ _ _ q, r⟩

theorem WP.seq {x y : Code} (h : WP P F x (Exit.thenS (WP P F y Q) Q) a cs w) : WP P F (.seq x y) Q a cs w := by
  intro b k hb
  obtain ⟨e, a₁, cs₁, w₁, hq, harr⟩ := h b (.code y :: k) hb
  cases e with
  | normal =>
    obtain ⟨e₂, a₂, cs₂, w₂, hq₂, harr₂⟩ := hq b k hb
    exact ⟨e₂, a₂, cs₂, w₂, hq₂, .of_steps (.head step_seq harr) harr₂⟩
  | exit id => exact ⟨_, a₁, cs₁, w₁, hq, .of_steps (.one step_seq) (.pass (x := .code y) rfl (fun _ _ => .inl (by simp)) harr)⟩
  | goto l => exact ⟨_, a₁, cs₁, w₁, hq, .of_steps (.one step_seq) (.pass (x := .code y) rfl (fun _ _ => .inl (by simp)) harr)⟩
  | ret => exact ⟨_, a₁, cs₁, w₁, hq, .of_steps (.one step_seq) (.pass (x := .code y) rfl (fun _ _ => .inl (by simp)) harr)⟩
  | panic ch => exact ⟨_, a₁, cs₁, w₁, hq, .of_steps (.one step_seq) (.pass (x := .code y) rfl (fun _ _ => .inl (by simp)) harr)⟩
  | outgrown => exact ⟨_, a₁, cs₁, w₁, hq, .of_steps (.one step_seq) (.pass (x := .code y) rfl (fun _ _ => .inl (by simp)) harr)⟩
theorem WP.cond {c : Operand} {x y : Code} {t : Bool} (hc : a.eval c = .bool t) (h : WP P F (if t then x else y) Q a cs w) : WP P F (.cond c x y) Q a cs w :=
  fun b k hb => let ⟨e, a', cs', w', q, r⟩ := h b k hb; ⟨e, a', cs', w', q, .of_steps (.one (step_cond hc)) r⟩

def inBlockS (id : Nat) (Q : Exit → Act → List Frame → World → Prop) : Exit → Act → List Frame → World → Prop
  | .exit id', a, cs, w => if id' = id then Q .normal a cs w else Q (.exit id') a cs w
  | e, a, cs, w => Q e a cs w
theorem WP.block {id : Nat} {c : Code} (h : WP P F c (inBlockS id Q) a cs w) : WP P F (.block id c) Q a cs w := by
  intro b k hb
  obtain ⟨e, a₁, cs₁, w₁, hq, harr⟩ := h b (.inBlock id :: k) hb
  cases e with
  | normal => exact ⟨.normal, a₁, cs₁, w₁, hq, .head step_block (Steps.trans harr (.one step_inBlock))⟩
  | exit id' =>
    by_cases hid : id' = id
    · simp only [inBlockS, hid, if_true] at hq
      exact ⟨.normal, a₁, cs₁, w₁, hq, .head step_block (harr k (by simp [exitTo, hid]))⟩
    · simp only [inBlockS, hid, if_false] at hq
      refine ⟨.exit id', a₁, cs₁, w₁, hq, fun k' hk => .head step_block (harr k' ?_)⟩
      have : (id == id') = false := by simp; exact fun h => hid h.symm
      simp [exitTo, this, hk]
  | goto l => exact ⟨_, a₁, cs₁, w₁, hq, fun k' hk => .head step_block (harr k' (by simp [gotoIn, hk]))⟩
  | ret => exact ⟨_, a₁, cs₁, w₁, hq, .of_steps (.one step_block) harr⟩
  | panic ch => exact ⟨_, a₁, cs₁, w₁, hq, .of_steps (.one step_block) harr⟩
  | outgrown => exact ⟨_, a₁, cs₁, w₁, hq, .of_steps (b := b) (k := k) (cs := cs₁) (e := .outgrown) (.one step_block) harr⟩

/-- so many rounds at the most -/
def Rounds (P : Program) (F : Frame → Prop) (c : Code) (Q : Exit → Act → List Frame → World → Prop) : Nat → Act → List Frame → World → Prop
  | 0, _, _, _ => False
  | n + 1, a, cs, w => WP P F c (Exit.thenS (Rounds P F c Q n) Q) a cs w
theorem WP.loop {c : Code} {n : Nat} (h : Rounds P F c Q n a cs w) : WP P F (.loop c) Q a cs w := by
  intro b k hb
  have key : ∀ n a cs w, Rounds P F c Q n a cs w → ∃ e a' cs' w', Q e a' cs' w' ∧ Arrives P (lone (b.at a (.code c :: .inLoop c :: k)) cs w) b k cs' e a' w' := by
    intro n
    induction n with
    | zero => intro a cs w h; exact h.elim
    | succ n ih =>
      intro a cs w h
      obtain ⟨e, a₁, cs₁, w₁, hq, harr⟩ := h b (.inLoop c :: k) hb
      cases e with
      | normal =>
        obtain ⟨e₂, a₂, cs₂, w₂, hq₂, harr₂⟩ := ih a₁ cs₁ w₁ hq
        exact ⟨e₂, a₂, cs₂, w₂, hq₂, .of_steps (Steps.trans harr (.one step_inLoop)) harr₂⟩
      | exit id => exact ⟨_, a₁, cs₁, w₁, hq, .pass (x := .inLoop c) rfl (fun _ _ => .inl (by simp)) harr⟩
      | goto l => exact ⟨_, a₁, cs₁, w₁, hq, .pass (x := .inLoop c) rfl (fun _ _ => .inl (by simp)) harr⟩
      | ret => exact ⟨_, a₁, cs₁, w₁, hq, .pass (x := .inLoop c) rfl (fun _ _ => .inl (by simp)) harr⟩
      | panic ch => exact ⟨_, a₁, cs₁, w₁, hq, .pass (x := .inLoop c) rfl (fun _ _ => .inl (by simp)) harr⟩
      | outgrown => exact ⟨_, a₁, cs₁, w₁, hq, .pass (x := .inLoop c) rfl (fun _ _ => .inl (by simp)) harr⟩
  obtain ⟨e, a', cs', w', hq, harr⟩ := key n a cs w h
  exact ⟨e, a', cs', w', hq, .of_steps (.one step_loop) harr⟩
end

theorem bindR_go {f : Ex → Fr → St → Res} : ∀ {l res : List (Ex × Fr × St)} {e : Ex} {fr : Fr} {s : St}, bindR.go f l = some res → (e, fr, s) ∈ l → ∃ o', f e fr s = some o' ∧ ∀ x ∈ o', x ∈ res
  | [], _, _, _, _, _, h => by cases h
  | (e0, fr0, s0) :: rest, res, e, fr, s, h, hm => by
    simp only [bindR.go] at h
    split at h
    · cases h
    · rename_i a ha
      split at h
      · cases h
        rcases List.mem_cons.1 hm with q | q
        · cases q; exact ⟨_, ha, fun _ h => h⟩
        · cases q
      · split at h
        · cases h
        · rename_i b hb
          cases h
          rcases List.mem_cons.1 hm with q | q
          · cases q; exact ⟨_, ha, fun x h => List.mem_append_left _ h⟩
          · obtain ⟨o', h1, h2⟩ := bindR_go hb q
            exact ⟨o', h1, fun x hx => List.mem_append_right _ (h2 x hx)⟩
theorem bindR_spec {f : Ex → Fr → St → Res} {r : Res} {res : List (Ex × Fr × St)} (h : bindR r f = some res) : ∃ l, r = some l ∧ ∀ e fr s, (e, fr, s) ∈ l → ∃ o', f e fr s = some o' ∧ ∀ x ∈ o', x ∈ res := by
  unfold bindR at h
  split at h
  · cases h
  · rename_i l
    exact ⟨l, rfl, fun e fr s hm => bindR_go h hm⟩

section
variable {cs0 : List Frame}
theorem Post.trans {fno : Nat} {rc0 : Rc} {ρ0 ρ : Map} {s0 s : St} {w0 w : World} {fr : Fr} {outs OUTS : List (Ex × Fr × St)} {e : Exit} {a' : Act} {cs' : List Frame} {w' : World} (hadv : Adv base (Own fno) ρ0 s0 w0 ρ s w) (hf : fr.fno = fno) (hF : ∀ b, FrOK rc0 b → FrOK fr.rc b) (hn : rc0 = .no → fr.rc = .no)
    (h : Post G base cs0 fr.fno fr.rc ρ s w outs e a' cs' w') (hs : ∀ x ∈ outs, x ∈ OUTS) : Post G base cs0 fno rc0 ρ0 s0 w0 OUTS e a' cs' w' := by
  obtain ⟨x, fr', s', ρ', h1, h2, h3, h4, h5, h6, h7, h8⟩ := h
  rw [hf] at h4
  exact ⟨x, fr', s', ρ', hs _ h1, h2, h3, hadv.trans h4, h5.trans hf, h6, fun b hb => h7 b (hF b hb), fun hh => h8 (hn hh)⟩

/-- A REGION. -/
theorem region_sound {call : CallF} (HC : CallOK P G base call) (hm : P.follows .mixedOrders = true) {id : Nat} {ops : Array Oper} {draw : Bool} {fr : Fr} {s : St} {ρ : Map} {a : Act} {cs : List Frame} {w : World} {outs : List (Ex × Fr × St)} (h : region P G call ops draw fr s = some outs)
    (rs : RS G base 0 ρ fr s a w) (hcs : RCx ρ fr.rc cs0 cs) : WP P (FrOK fr.rc) (.region id ops draw) (Post G base cs0 fr.fno fr.rc ρ s w outs) a cs w := by
  unfold region at h
  split at h
  · rename_i hk
    have hk := keysOk_spec hk
    simp only [Array.length_toList] at hk
    have hadv := Adv.refl (ok := Own fr.fno) rs.rm.rh rs.rm.hi
    have hr : List.range ops.size = List.range' 0 ops.toList.length := by rw [List.range_eq_range', Array.length_toList]
    cases hrc : fr.rc with
    | no =>
      rw [hrc] at hcs
      have hcs' : cs = cs0 := hcs
      subst hcs'
      refine WP.of_wp ((wpIn_wide (n := 0)).1 (wpIn_region ?_))
      rw [hr]
      exact text_sound HC ops.toList 0 fr s outs h (by simp) (fun _ h => h) hk hrc rfl ρ a w rs hadv
    | idle =>
      refine WP.of_wpS (fun b hb => hb) (wpS_region ?_)
      rw [hr, ← hrc]
      exact text_soundS HC ops.toList 0 fr s outs h (by simp) (fun _ h => h) hk rfl (by rw [hrc]; simp) (fun h => h) ρ a cs w rs hadv hcs
    | live v d =>
      refine WP.of_wpS (fun b hb => hb) (wpS_region ?_)
      rw [hr, ← hrc]
      exact text_soundS HC ops.toList 0 fr s outs h (by simp) (fun _ h => h) hk rfl (by rw [hrc]; simp) (fun h => h) ρ a cs w rs hadv hcs
  · rename_i hk
    have hk := keysOk_spec hk
    simp only [Array.length_toList] at hk
    exact WP.of_wp (drawn_sound HC hm h hk rs hcs)
  · cases h

/-- THE CODE. -/
theorem code_sound {call : CallF} (HC : CallOK P G base call) (hm : P.follows .mixedOrders = true) (hn : NoNum P) (m : Nat) : ∀ (c : Code) (fr : Fr) (s : St) (outs : List (Ex × Fr × St)), code P G call m c fr s = some outs →
    ∀ (ρ : Map) (a : Act) (cs : List Frame) (w : World), RS G base 0 ρ fr s a w → RCx ρ fr.rc cs0 cs → WP P (FrOK fr.rc) c (Post G base cs0 fr.fno fr.rc ρ s w outs) a cs w := by
  intro c
  have one : ∀ (x : Ex) (e : Exit) (fr : Fr) (s : St) (outs : List (Ex × Fr × St)), offOf x = 0 → some [(x, fr, s)] = some outs → ∀ (ρ : Map) (a : Act) (cs : List Frame) (w : World), RX ρ x e → RS G base 0 ρ fr s a w → RCx ρ fr.rc cs0 cs → Post G base cs0 fr.fno fr.rc ρ s w outs e a cs w := by
    intro x e fr s outs h0 h ρ a cs w hx rs hcs
    cases h
    exact ⟨x, fr, s, ρ, List.mem_singleton.2 rfl, hx, by rw [h0]; exact rs, Adv.refl rs.rm.rh rs.rm.hi, rfl, hcs, fun _ h => h, fun h => h⟩
  induction c with
  | skip => intro fr s outs h ρ a cs w rs hcs; exact WP.of_wp (wp_skip (one .normal .normal fr s outs rfl h ρ a cs w rfl rs hcs))
  | label l => intro fr s outs h ρ a cs w rs hcs; exact WP.of_wp (wp_label (one .normal .normal fr s outs rfl h ρ a cs w rfl rs hcs))
  | region id ops draw => intro fr s outs h ρ a cs w rs hcs; exact region_sound HC hm h rs hcs
  | seq x y ihx ihy =>
    intro fr s outs h ρ a cs w rs hcs
    rw [code] at h
    obtain ⟨l, hl, hall⟩ := bindR_spec h
    refine WP.seq ((ihx fr s l hl ρ a cs w rs hcs).mono ?_)
    rintro e a' cs' w' ⟨x', fr', s', ρ', h1, h2, h3, h4, h5, h6, h7, h8⟩
    obtain ⟨o', ho, hsub⟩ := hall x' fr' s' h1
    cases x' with
    | normal =>
      have he : e = .normal := h2
      subst he
      exact ((ihy fr' s' o' ho ρ' a' cs' w' h3 h6).kind h7).mono fun e2 a2 cs2 w2 hp => hp.trans h4 h5 h7 h8 hsub
    | exit j =>
      have he : e = .exit j := h2
      subst he
      cases ho
      exact ⟨_, fr', s', ρ', hsub _ (List.mem_singleton.2 rfl), rfl, h3, h4, h5, h6, h7, h8⟩
    | ret =>
      have he : e = .ret := h2
      subst he
      cases ho
      exact ⟨_, fr', s', ρ', hsub _ (List.mem_singleton.2 rfl), rfl, h3, h4, h5, h6, h7, h8⟩
    | pan v =>
      obtain ⟨u, ru, he⟩ := h2
      subst he
      cases ho
      exact ⟨_, fr', s', ρ', hsub _ (List.mem_singleton.2 rfl), ⟨u, ru, rfl⟩, h3, h4, h5, h6, h7, h8⟩
  | cond c x y ihx ihy =>
    intro fr s outs h ρ a cs w rs hcs
    rw [code] at h
    split at h
    · rename_i hc
      have := rs.rf.ev hc
      exact WP.cond (t := true) this (ihx fr s outs h ρ a cs w rs hcs)
    · rename_i hc
      have := rs.rf.ev hc
      exact WP.cond (t := false) this (ihy fr s outs h ρ a cs w rs hcs)
    · cases h
  | block id x ih =>
    intro fr s outs h ρ a cs w rs hcs
    rw [code] at h
    obtain ⟨l, hl, hall⟩ := bindR_spec h
    refine WP.block ((ih fr s l hl ρ a cs w rs hcs).mono ?_)
    rintro e a' cs' w' ⟨x', fr', s', ρ', h1, h2, h3, h4, h5, h6, h7, h8⟩
    obtain ⟨o', ho, hsub⟩ := hall x' fr' s' h1
    cases x' with
    | normal =>
      have he : e = .normal := h2
      subst he
      cases ho
      exact ⟨_, fr', s', ρ', hsub _ (List.mem_singleton.2 rfl), rfl, h3, h4, h5, h6, h7, h8⟩
    | exit j =>
      have he : e = .exit j := h2
      subst he
      simp only at ho
      simp only [inBlockS]
      split at ho
      · rename_i hj
        cases ho
        rw [if_pos (Nat.eq_of_beq_eq_true hj)]
        exact ⟨_, fr', s', ρ', hsub _ (List.mem_singleton.2 rfl), rfl, h3, h4, h5, h6, h7, h8⟩
      · rename_i hj
        cases ho
        rw [if_neg (by intro e; subst e; simp at hj)]
        exact ⟨_, fr', s', ρ', hsub _ (List.mem_singleton.2 rfl), rfl, h3, h4, h5, h6, h7, h8⟩
    | ret =>
      have he : e = .ret := h2
      subst he
      cases ho
      exact ⟨_, fr', s', ρ', hsub _ (List.mem_singleton.2 rfl), rfl, h3, h4, h5, h6, h7, h8⟩
    | pan v =>
      obtain ⟨u, ru, he⟩ := h2
      subst he
      cases ho
      exact ⟨_, fr', s', ρ', hsub _ (List.mem_singleton.2 rfl), ⟨u, ru, rfl⟩, h3, h4, h5, h6, h7, h8⟩
  | loop x ih =>
    intro fr s outs h ρ a cs w rs hcs
    rw [code] at h
    refine WP.loop (n := m) ?_
    have rounds : ∀ (n : Nat) (fr : Fr) (s : St) (outs : List (Ex × Fr × St)), iter (code P G call m x) n fr s = some outs → ∀ (ρ : Map) (a : Act) (cs : List Frame) (w : World), RS G base 0 ρ fr s a w → RCx ρ fr.rc cs0 cs →
        ∀ (F : Frame → Prop) (Q : Exit → Act → List Frame → World → Prop), (∀ b, F b → FrOK fr.rc b) → (∀ e a' cs' w', Post G base cs0 fr.fno fr.rc ρ s w outs e a' cs' w' → Q e a' cs' w') → Rounds P F x Q n a cs w := by
      intro n
      induction n with
      | zero => intro fr s outs h; simp [iter] at h
      | succ n ihn =>
        intro fr s outs h ρ a cs w rs hcs F Q hF hQ
        rw [iter] at h
        obtain ⟨l, hl, hall⟩ := bindR_spec h
        refine ((ih fr s l hl ρ a cs w rs hcs).kind hF).mono ?_
        rintro e a' cs' w' ⟨x', fr', s', ρ', h1, h2, h3, h4, h5, h6, h7, h8⟩
        obtain ⟨o', ho, hsub⟩ := hall x' fr' s' h1
        cases x' with
        | normal =>
          have he : e = .normal := h2
          subst he
          exact ihn fr' s' o' ho ρ' a' cs' w' h3 h6 F Q (fun b hb => h7 b (hF b hb)) fun e2 a2 cs2 w2 hp => hQ _ _ _ _ (hp.trans h4 h5 h7 h8 hsub)
        | exit j =>
          have he : e = .exit j := h2
          subst he
          cases ho
          exact hQ _ _ _ _ ⟨_, fr', s', ρ', hsub _ (List.mem_singleton.2 rfl), rfl, h3, h4, h5, h6, h7, h8⟩
        | ret =>
          have he : e = .ret := h2
          subst he
          cases ho
          exact hQ _ _ _ _ ⟨_, fr', s', ρ', hsub _ (List.mem_singleton.2 rfl), rfl, h3, h4, h5, h6, h7, h8⟩
        | pan v =>
          obtain ⟨u, ru, he⟩ := h2
          subst he
          cases ho
          exact hQ _ _ _ _ ⟨_, fr', s', ρ', hsub _ (List.mem_singleton.2 rfl), ⟨u, ru, rfl⟩, h3, h4, h5, h6, h7, h8⟩
    exact rounds m fr s outs h ρ a cs w rs hcs _ _ (fun _ h => h) (fun _ _ _ _ h => h)
  | exit id => intro fr s outs h ρ a cs w rs hcs; exact WP.of_wp (wp_exit (one (.exit id) (.exit id) fr s outs rfl h ρ a cs w rfl rs hcs))
  | ret => intro fr s outs h ρ a cs w rs hcs; exact WP.of_wp (wp_ret (one .ret .ret fr s outs rfl h ρ a cs w rfl rs hcs))
  | rangeFunc g ps x y ihx ihy =>
    intro fr s outs h ρ a cs w rs hcs
    rw [code] at h
    have hrc : fr.rc = .no := by
      unfold rangeF at h
      split at h
      · rename_i e _; exact e
      · cases h
    have hcs' : cs = cs0 := by rw [hrc] at hcs; exact hcs
    subst hcs'
    exact WP.of_wp (range_sound HC hn h rs hcs)
  | _ => intro fr s outs h; simp [code] at h
end
end Go.Ai

namespace Go.Ai
open Go
variable {P : Program} {G : Glob} {base : Nat}

/-! ### results -/
def resF (tmps : Array Value) : ResultVar → Sem Value
  | .tmp t => pure (tmps.getD t undef)
  | .cell a t => do loadVar t (← asAddr (tmps.getD a undef))
theorem resultsA_sound {ρ : Map} {fr : Fr} {s : St} {a : Act} {w : World} (rf : RF ρ fr a) (rm : RM G base ρ s w) : ∀ {rs : List ResultVar} {vs : List AV}, resultsA P G fr s.h rs = some vs → ∃ us, (rs.mapM (resF a.tmps)).run P w = .ok us w ∧ RVs ρ vs us
  | [], vs, h => by simp [resultsA] at h; subst h; exact ⟨[], rfl, rfl⟩
  | r :: rs, vs, h => by
    simp only [resultsA] at h
    split at h
    · rename_i v vs' hv hvs
      cases h
      obtain ⟨us, h1, h2⟩ := resultsA_sound rf rm hvs
      have hone : ∃ u, (resF a.tmps r).run P w = .ok u w ∧ RV ρ v u := by
        cases r with
        | tmp t =>
          simp only [resultA] at hv
          exact ⟨_, rfl, rf.ev hv⟩
        | cell t ty =>
          simp only [resultA] at hv
          split at hv
          · rename_i p hp
            obtain ⟨u, _, ru, ad, had, hl⟩ := loadA_rv rm.rh rm.rg hv (rf.ev hp)
            have had' : a.tmps.getD t undef = .pointer (some ad) := had
            refine ⟨u, ?_, ru⟩
            simp only [resF, had', asAddr, Sem.run_bind, Sem.run_pure, Result.andThen_ok, hl]
          · cases hv
      obtain ⟨u, h3, h4⟩ := hone
      refine ⟨u :: us, ?_, u, us, h4, h2, rfl⟩
      simp only [List.mapM_cons, Sem.run_bind, h3, Result.andThen_ok, h1, Sem.run_pure]
    · cases h
theorem result_sound {ρ : Map} {fr : Fr} {s : St} {a : Act} {w : World} (rf : RF ρ fr a) (rm : RM G base ρ s w) {fn : Func} {v : AV} (h : resultOf P G fr s.h fn.results = some v) : ∃ u, (results fn a.tmps).run P w = .ok u w ∧ RV ρ v u := by
  have hres : results fn a.tmps = (do let vs ← fn.results.mapM (resF a.tmps); pure (if h : vs.size = 1 then vs[0] else .tuple vs)) := rfl
  have key : ∀ vs, resultsA P G fr s.h fn.results.toList = some vs → ∃ us : List Value, (fn.results.mapM (resF a.tmps)).run P w = .ok us.toArray w ∧ RVs ρ vs us := fun vs hvs => by
    obtain ⟨us, h1, h2⟩ := resultsA_sound rf rm hvs
    refine ⟨us, ?_, h2⟩
    rw [Array.mapM_eq_mapM_toList]
    simp only [map_eq_pure_bind, Sem.run_bind, h1, Result.andThen_ok, Sem.run_pure]
  unfold resultOf at h
  split at h
  · rename_i v' hvs
    cases h
    obtain ⟨us, h1, u, us', ru, rs, e⟩ := key _ hvs
    simp only [RVs] at rs
    subst rs e
    refine ⟨u, ?_, ru⟩
    rw [hres]
    simp only [Sem.run_bind, h1, Result.andThen_ok, Sem.run_pure]
    rfl
  · rename_i vs hne hvs
    cases h
    obtain ⟨us, h1, rs⟩ := key _ hvs
    refine ⟨.tuple us.toArray, ?_, us, rs, rfl⟩
    have hl : us.toArray.size ≠ 1 := by
      intro e
      have := RVs.length rs
      simp at e
      rw [e] at this
      obtain ⟨x, hx⟩ := List.length_eq_one_iff.1 this
      exact hne x hx
    rw [hres]
    simp only [Sem.run_bind, h1, Result.andThen_ok, Sem.run_pure]
    rw [dif_neg hl]
  · cases h

/-! ### a function's body -/
theorem Adv.callee {ρ ρ' : Map} {s s' : St} {w w' : World} (h : Adv base (Own s.fc) ρ ⟨s.h, s.fc + 1⟩ w ρ' s' w') : Adv base (fun _ => False) ρ s w ρ' s' w' :=
  ⟨h.st, Nat.le_trans (Nat.le_succ _) h.fc, fun i hi _ => h.keep i (by show i < (s.fc + 1) * KK; rw [succ_KK]; omega) (by rintro ⟨h1, _⟩; omega), h.hi⟩

def act0 (fn : Func) (vs : List Value) : Act := { tmps := vs.toArray ++ Array.replicate (fn.ntmps - vs.toArray.size) undef, defers := [] }
theorem act0_rf {ρ : Map} {fn : Func} {args : List AV} {vs : List Value} (r : RVs ρ args vs) (fno : Nat) (rc : Rc) : RF ρ ⟨fno, 0, Nat.max fn.ntmps args.length, T.setList .e 0 args, [], rc⟩ (act0 fn vs) := by
  have hl := RVs.length r
  refine ⟨?_, fun t => ?_⟩
  · have : Nat.max fn.ntmps args.length = max fn.ntmps args.length := rfl
    simp only [act0, Array.size_append, Array.size_replicate, List.size_toArray, this]
    omega
  · simp only [T.get_setList, Nat.zero_le, true_and, Nat.zero_add, Nat.sub_zero]
    by_cases ht : t < args.length
    · rw [if_pos ht]
      have ha : args[t]? = some args[t] := by simp [ht]
      obtain ⟨y, hy, ry⟩ := RVs.get r t _ ha
      rw [ha]
      have : (act0 fn vs).tmps.getD t undef = y := by
        have hlt : t < vs.length := by omega
        have e1 : (act0 fn vs).tmps[t]? = some y := by
          simp only [act0]
          rw [Array.getElem?_append_left (by simpa using hlt)]
          simpa using hy
        simp [e1]
      rw [this]; exact ry
    · rw [if_neg ht]
      have hg : (T.e : T AV).get t = none := by cases t <;> rfl
      have : (act0 fn vs).tmps.getD t undef = undef := by
        have hge : vs.toArray.size ≤ t := by simp; omega
        cases hq : (act0 fn vs).tmps[t]? with
        | none => simp [hq]
        | some y =>
          have hq' := hq
          simp only [act0] at hq'
          rw [Array.getElem?_append_right hge] at hq'
          simp only [Array.getElem?_replicate] at hq'
          split at hq'
          · cases hq'; simp [hq]
          · cases hq'
      rw [this]
      first | (rw [hg]; exact rv_undef _) | exact rv_undef _

/-- how a body ends -/
def BPost (G : Glob) (base : Nat) (cs0 : List Frame) (rc : Rc) (ρ0 : Map) (s0 : St) (w0 : World) (outs : List (Ex × Fr × St)) (e : Exit) (a' : Act) (cs' : List Frame) (w' : World) : Prop :=
  ∃ x fr' s' ρ', (x, fr', s') ∈ outs ∧ RX ρ' x e ∧ RF ρ' fr' a' ∧ RM G base ρ' s' w' ∧ RD ρ' fr'.df a'.defers ∧ Adv base (fun _ => False) ρ0 s0 w0 ρ' s' w' ∧ RCx ρ' fr'.rc cs0 cs' ∧ (rc = .no → fr'.rc = .no)

theorem body_sound {call : CallF} (HC : CallOK P G base call) (hm : P.follows .mixedOrders = true) (hn : NoNum P) {m : Nat} {fn : Func} {args : List AV} {s : St} {rc : Rc} {l : List (Ex × Fr × St)} (h : body P G call m fn args s rc = some l) {ρ : Map} {vs : List Value} {w : World} (rv : RVs ρ args vs) (rm : RM G base ρ s w) :
    ∃ c, fn.body = some c ∧ ∀ cs0 cs, RCx ρ rc cs0 cs → WP P (FrOK rc) c (BPost G base cs0 rc ρ s w l) (act0 fn vs) cs w := by
  unfold body at h
  split at h
  · cases h
  · rename_i c hc
    refine ⟨c, hc, fun cs0 cs hcs => ?_⟩
    obtain ⟨h0, fc⟩ := s
    simp only [natC_eq, T.setListC_eq] at h
    have rs : RS G base 0 ρ ⟨fc, 0, Nat.max fn.ntmps args.length, T.setList .e 0 args, [], rc⟩ ⟨h0, fc + 1⟩ (act0 fn vs) w := by
      have hi : ∀ i, fc * KK ≤ i → ρ i = none := rm.hi
      refine ⟨act0_rf rv fc rc, ⟨rm.rh, rm.rg, rm.bs, fun i h1 => hi i ?_⟩, fun i h1 _ => hi i ?_, Nat.lt_succ_self _, rfl⟩
      · have h1 : (fc + 1) * KK ≤ i := h1
        rw [succ_KK] at h1; omega
      · have h1 : fc * KK + (0 + 0) ≤ i := h1
        omega
    have := code_sound (cs0 := cs0) HC hm hn m c _ _ l h ρ (act0 fn vs) cs w rs hcs
    refine this.mono ?_
    rintro e a' cs' w' ⟨x, fr', s', ρ', h1, h2, h3, h4, h5, h6, h7, h8⟩
    exact ⟨x, fr', s', ρ', h1, h2, h3.rf, h3.rm, h3.df, Adv.callee (s := ⟨h0, fc⟩) h4, h6, h8⟩

/-! ### what is deferred -/
def RL (ρ : Map) : Lv → FrameMode → Prop
  | .back, m => m = .returning
  | .pan v, m => ∃ u, RV ρ v u ∧ m = .panicking [{ v := u, recovered := false }]
theorem deferred_ends {u : Lv} {fn : Func} : ∀ {l : List (Ex × Fr × St)} {res : List (Lv × St)}, deferred.ends P G u fn l = some res → ∀ e fr s, (e, fr, s) ∈ l →
    (e = .normal ∨ e = .ret) ∧ fr.df = [] ∧ (∃ v, resultOf P G fr s.h fn.results = some v) ∧
      ((u = .back ∧ fr.rc = .idle ∧ (Lv.back, s) ∈ res) ∨ (∃ v v', u = .pan v ∧ fr.rc = .live v' true ∧ (Lv.back, s) ∈ res) ∨ (∃ v v', u = .pan v ∧ fr.rc = .live v' false ∧ (Lv.pan v', s) ∈ res))
  | [], _, _, e, fr, s, hm => by cases hm
  | (e0, fr0, s0) :: rest, res, h, e, fr, s, hm => by
    simp only [deferred.ends] at h
    split at h
    · cases h
    · rename_i b hb
      have ih := deferred_ends hb e fr s
      have fin : ∀ x, (match u, fr0.rc with
          | .back, .idle => some ((Lv.back, s0) :: b)
          | .pan _, .live _ true => some ((.back, s0) :: b)
          | .pan _, .live v false => some ((.pan v, s0) :: b)
          | _, _ => none) = some res → resultOf P G fr0 s0.h fn.results = some x → fr0.df = [] → (e0 = .normal ∨ e0 = .ret) → 
          (e = .normal ∨ e = .ret) ∧ fr.df = [] ∧ (∃ v, resultOf P G fr s.h fn.results = some v) ∧
            ((u = .back ∧ fr.rc = .idle ∧ (Lv.back, s) ∈ res) ∨ (∃ v v', u = .pan v ∧ fr.rc = .live v' true ∧ (Lv.back, s) ∈ res) ∨ (∃ v v', u = .pan v ∧ fr.rc = .live v' false ∧ (Lv.pan v', s) ∈ res)) := by
        intro x h' hx hdf he0
        clear h
        split at h'
        · rename_i hrc
          cases h'
          rcases List.mem_cons.1 hm with q | q
          · cases q; exact ⟨he0, hdf, ⟨x, hx⟩, .inl ⟨rfl, hrc, List.mem_cons_self⟩⟩
          · obtain ⟨h1, h2, h3, h4⟩ := ih q
            refine ⟨h1, h2, h3, ?_⟩
            rcases h4 with ⟨e1, e2, e3⟩ | ⟨v, v', e1, e2, e3⟩ | ⟨v, v', e1, e2, e3⟩
            · exact .inl ⟨e1, e2, List.mem_cons_of_mem _ e3⟩
            · cases e1
            · cases e1
        · rename_i v0 v1 hrc
          cases h'
          rcases List.mem_cons.1 hm with q | q
          · cases q; exact ⟨he0, hdf, ⟨x, hx⟩, .inr (.inl ⟨_, _, rfl, hrc, List.mem_cons_self⟩)⟩
          · obtain ⟨h1, h2, h3, h4⟩ := ih q
            refine ⟨h1, h2, h3, ?_⟩
            rcases h4 with ⟨e1, e2, e3⟩ | ⟨v, v', e1, e2, e3⟩ | ⟨v, v', e1, e2, e3⟩
            · cases e1
            · exact .inr (.inl ⟨v, v', e1, e2, List.mem_cons_of_mem _ e3⟩)
            · exact .inr (.inr ⟨v, v', e1, e2, List.mem_cons_of_mem _ e3⟩)
        · rename_i v0 v1 hrc
          cases h'
          rcases List.mem_cons.1 hm with q | q
          · cases q; exact ⟨he0, hdf, ⟨x, hx⟩, .inr (.inr ⟨_, _, rfl, hrc, List.mem_cons_self⟩)⟩
          · obtain ⟨h1, h2, h3, h4⟩ := ih q
            refine ⟨h1, h2, h3, ?_⟩
            rcases h4 with ⟨e1, e2, e3⟩ | ⟨v, v', e1, e2, e3⟩ | ⟨v, v', e1, e2, e3⟩
            · cases e1
            · exact .inr (.inl ⟨v, v', e1, e2, List.mem_cons_of_mem _ e3⟩)
            · exact .inr (.inr ⟨v, v', e1, e2, List.mem_cons_of_mem _ e3⟩)
        · cases h'
      split at h
      · rename_i x hdf hx
        exact fin x h hx hdf (.inl rfl)
      · rename_i x hdf hx
        exact fin x h hx hdf (.inr rfl)
      · cases h
end Go.Ai

/-! The rounds of a range over a function. -/
namespace Go.Ai
open Go
variable {P : Program} {G : Glob} {base : Nat}

/-- so many rounds of a loop at the most, in a round -/
def RoundsR (P : Program) (r : Nat) (c : Code) (Q : Exit → Act → World → Prop) : Nat → Act → World → Prop
  | 0, _, _ => False
  | n + 1, a, w => c.wpIn (Fence.wide.inRound r) 0 P (Exit.then (RoundsR P r c Q n) Q) a w
theorem wpIn_loopR {r : Nat} {c : Code} {Q : Exit → Act → World → Prop} {n : Nat} {a : Act} {w : World} (h : RoundsR P r c Q n a w) : (Code.loop c).wpIn (Fence.wide.inRound r) 0 P Q a w := by
  intro b k cs hro hb hr
  have key : ∀ n a w, RoundsR P r c Q n a w → ∃ e a' w', Q e a' w' ∧ ArrivesIn (Machine.fenced P (Fence.wide.inRound r)) P (lone (b.atR a (.code c :: .inLoop c :: k)) cs w) b k cs e a' w' := by
    intro n
    induction n with
    | zero => intro a w h; exact h.elim
    | succ n ih =>
      intro a w h
      obtain ⟨e, a₁, w₁, hq, harr⟩ := h b (.inLoop c :: k) cs hro hb hr
      cases e with
      | normal =>
        obtain ⟨e₂, a₂, w₂, hq₂, harr₂⟩ := ih a₁ w₁ hq
        exact ⟨e₂, a₂, w₂, hq₂, .of_steps (StepsIn.trans harr (.one (fenced_calm hb hr rfl) stepR_inLoop)) harr₂⟩
      | exit id => exact ⟨_, a₁, w₁, hq, .pass (x := .inLoop c) rfl (fun _ _ => .inl (by simp)) harr⟩
      | goto l => exact ⟨_, a₁, w₁, hq, .pass (x := .inLoop c) rfl (fun _ _ => .inl (by simp)) harr⟩
      | ret => exact ⟨_, a₁, w₁, hq, .pass (x := .inLoop c) rfl (fun _ _ => .inl (by simp)) harr⟩
      | panic ch => exact ⟨_, a₁, w₁, hq, .pass (x := .inLoop c) rfl (fun _ _ => .inl (by simp)) harr⟩
      | outgrown => exact ⟨_, a₁, w₁, hq, .pass (x := .inLoop c) rfl (fun _ _ => .inl (by simp)) harr⟩
  obtain ⟨e, a', w', hq, harr⟩ := key n a w h
  exact ⟨e, a', w', hq, .of_steps (.one (fenced_calm hb hr rfl) stepR_loop) harr⟩

theorem region_soundR {call : CallF} (HC : CallOK P G base call) (hm : P.follows .mixedOrders = true) {r id : Nat} {ops : Array Oper} {draw : Bool} {fr : Fr} {s : St} {ρ : Map} {a : Act} {w : World} {outs : List (Ex × Fr × St)} {cs : List Frame} (hok : okOps ops.toList = true) (h : region P G call ops draw fr s = some outs) (hrc : fr.rc = .no)
    (rs : RS G base 0 ρ fr s a w) : (Code.region id ops draw).wpIn (Fence.wide.inRound r) 0 P (fun e a' w' => Post G base cs fr.fno .no ρ s w outs e a' cs w') a w := by
  unfold region at h
  split at h
  · rename_i hk
    have hk := keysOk_spec hk
    simp only [Array.length_toList] at hk
    have hadv := Adv.refl (ok := Own fr.fno) rs.rm.rh rs.rm.hi
    have hr : List.range ops.size = List.range' 0 ops.toList.length := by rw [List.range_eq_range', Array.length_toList]
    refine wpIn_region ?_
    rw [hr]
    exact ops_round hok _ _ _ (text_sound HC ops.toList 0 fr s outs h (by simp) (fun _ h => h) hk hrc rfl ρ a w rs hadv)
  · rename_i hk
    have hk := keysOk_spec hk
    simp only [Array.length_toList] at hk
    have := drawn_soundR (r := r) (id := id) (cs0 := cs) (cs := cs) HC hm hok h hk rs (by rw [hrc]; rfl)
    rw [hrc] at this
    exact this
  · cases h

/-- THE CODE, IN A ROUND. -/
theorem code_soundR {call : CallF} (HC : CallOK P G base call) (hm : P.follows .mixedOrders = true) (m r : Nat) (cs : List Frame) : ∀ (c : Code) (fr : Fr) (s : St) (outs : List (Ex × Fr × St)), okCode c = true → code P G call m c fr s = some outs → fr.rc = .no →
    ∀ (ρ : Map) (a : Act) (w : World), RS G base 0 ρ fr s a w → c.wpIn (Fence.wide.inRound r) 0 P (fun e a' w' => Post G base cs fr.fno .no ρ s w outs e a' cs w') a w := by
  intro c
  have one : ∀ (x : Ex) (e : Exit) (fr : Fr) (s : St) (outs : List (Ex × Fr × St)), offOf x = 0 → some [(x, fr, s)] = some outs → fr.rc = .no → ∀ (ρ : Map) (a : Act) (w : World), RX ρ x e → RS G base 0 ρ fr s a w → Post G base cs fr.fno .no ρ s w outs e a cs w := by
    intro x e fr s outs h0 h hrc ρ a w hx rs
    cases h
    exact ⟨x, fr, s, ρ, List.mem_singleton.2 rfl, hx, by rw [h0]; exact rs, Adv.refl rs.rm.rh rs.rm.hi, rfl, by rw [hrc]; rfl, fun _ h => by rw [hrc]; exact h, fun _ => hrc⟩
  have trans : ∀ {fno : Nat} {ρ0 ρ : Map} {s0 s : St} {w0 w : World} {fr : Fr} {outs OUTS : List (Ex × Fr × St)} {e : Exit} {a' : Act} {w' : World}, Adv base (Own fno) ρ0 s0 w0 ρ s w → fr.fno = fno → Post G base cs fr.fno .no ρ s w outs e a' cs w' → (∀ x ∈ outs, x ∈ OUTS) → Post G base cs fno .no ρ0 s0 w0 OUTS e a' cs w' := by
    intro fno ρ0 ρ s0 s w0 w fr outs OUTS e a' w' hadv hf h hs
    obtain ⟨x, fr', s', ρ', h1, h2, h3, h4, h5, h6, h7, h8⟩ := h
    rw [hf] at h4
    exact ⟨x, fr', s', ρ', hs _ h1, h2, h3, hadv.trans h4, h5.trans hf, h6, h7, h8⟩
  induction c with
  | skip => intro fr s outs _ h hrc ρ a w rs; exact wpIn_skip (one .normal .normal fr s outs rfl h hrc ρ a w rfl rs)
  | label l => intro fr s outs _ h hrc ρ a w rs; exact wpIn_label (one .normal .normal fr s outs rfl h hrc ρ a w rfl rs)
  | region id ops draw => intro fr s outs hok h hrc ρ a w rs; exact region_soundR HC hm hok h hrc rs
  | seq x y ihx ihy =>
    intro fr s outs hok h hrc ρ a w rs
    simp only [okCode] at hok
    split at hok
    · rename_i hx
      rw [code] at h
      obtain ⟨l, hl, hall⟩ := bindR_spec h
      refine wpIn_seq (wpIn_mono (ihx fr s l hx hl hrc ρ a w rs) ?_)
      rintro e a' w' ⟨x', fr', s', ρ', h1, h2, h3, h4, h5, h6, h7, h8⟩
      obtain ⟨o', ho, hsub⟩ := hall x' fr' s' h1
      have hrc' := h8 rfl
      cases x' with
      | normal =>
        have he : e = .normal := h2
        subst he
        exact wpIn_mono (ihy fr' s' o' hok ho hrc' ρ' a' w' h3) fun e2 a2 w2 hp => trans h4 h5 hp hsub
      | exit j =>
        have he : e = .exit j := h2
        subst he
        cases ho
        exact ⟨_, fr', s', ρ', hsub _ (List.mem_singleton.2 rfl), rfl, h3, h4, h5, h6, h7, h8⟩
      | ret =>
        have he : e = .ret := h2
        subst he
        cases ho
        exact ⟨_, fr', s', ρ', hsub _ (List.mem_singleton.2 rfl), rfl, h3, h4, h5, h6, h7, h8⟩
      | pan v =>
        obtain ⟨u, ru, he⟩ := h2
        subst he
        cases ho
        exact ⟨_, fr', s', ρ', hsub _ (List.mem_singleton.2 rfl), ⟨u, ru, rfl⟩, h3, h4, h5, h6, h7, h8⟩
    · cases hok
  | cond c x y ihx ihy =>
    intro fr s outs hok h hrc ρ a w rs
    simp only [okCode] at hok
    split at hok
    · rename_i hx
      rw [code] at h
      split at h
      · rename_i hc
        exact wpIn_cond (t := true) (rs.rf.ev hc) (ihx fr s outs hx h hrc ρ a w rs)
      · rename_i hc
        exact wpIn_cond (t := false) (rs.rf.ev hc) (ihy fr s outs hok h hrc ρ a w rs)
      · cases h
    · cases hok
  | block id x ih =>
    intro fr s outs hok h hrc ρ a w rs
    simp only [okCode] at hok
    rw [code] at h
    obtain ⟨l, hl, hall⟩ := bindR_spec h
    refine wpIn_block (wpIn_mono (ih fr s l hok hl hrc ρ a w rs) ?_)
    rintro e a' w' ⟨x', fr', s', ρ', h1, h2, h3, h4, h5, h6, h7, h8⟩
    obtain ⟨o', ho, hsub⟩ := hall x' fr' s' h1
    cases x' with
    | normal =>
      have he : e = .normal := h2
      subst he
      cases ho
      exact ⟨_, fr', s', ρ', hsub _ (List.mem_singleton.2 rfl), rfl, h3, h4, h5, h6, h7, h8⟩
    | exit j =>
      have he : e = .exit j := h2
      subst he
      simp only at ho
      simp only [Exit.inBlock]
      split at ho
      · rename_i hj
        cases ho
        rw [if_pos (Nat.eq_of_beq_eq_true hj)]
        exact ⟨_, fr', s', ρ', hsub _ (List.mem_singleton.2 rfl), rfl, h3, h4, h5, h6, h7, h8⟩
      · rename_i hj
        cases ho
        rw [if_neg (by intro e; subst e; simp at hj)]
        exact ⟨_, fr', s', ρ', hsub _ (List.mem_singleton.2 rfl), rfl, h3, h4, h5, h6, h7, h8⟩
    | ret =>
      have he : e = .ret := h2
      subst he
      cases ho
      exact ⟨_, fr', s', ρ', hsub _ (List.mem_singleton.2 rfl), rfl, h3, h4, h5, h6, h7, h8⟩
    | pan v =>
      obtain ⟨u, ru, he⟩ := h2
      subst he
      cases ho
      exact ⟨_, fr', s', ρ', hsub _ (List.mem_singleton.2 rfl), ⟨u, ru, rfl⟩, h3, h4, h5, h6, h7, h8⟩
  | loop x ih =>
    intro fr s outs hok h hrc ρ a w rs
    simp only [okCode] at hok
    rw [code] at h
    refine wpIn_loopR (n := m) ?_
    have rounds : ∀ (n : Nat) (fr : Fr) (s : St) (outs : List (Ex × Fr × St)), iter (code P G call m x) n fr s = some outs → fr.rc = .no → ∀ (ρ : Map) (a : Act) (w : World), RS G base 0 ρ fr s a w →
        ∀ (Q : Exit → Act → World → Prop), (∀ e a' w', Post G base cs fr.fno .no ρ s w outs e a' cs w' → Q e a' w') → RoundsR P r x Q n a w := by
      intro n
      induction n with
      | zero => intro fr s outs h; simp [iter] at h
      | succ n ihn =>
        intro fr s outs h hrc ρ a w rs Q hQ
        rw [iter] at h
        obtain ⟨l, hl, hall⟩ := bindR_spec h
        refine wpIn_mono (ih fr s l hok hl hrc ρ a w rs) ?_
        rintro e a' w' ⟨x', fr', s', ρ', h1, h2, h3, h4, h5, h6, h7, h8⟩
        obtain ⟨o', ho, hsub⟩ := hall x' fr' s' h1
        cases x' with
        | normal =>
          have he : e = .normal := h2
          subst he
          exact ihn fr' s' o' ho (h8 rfl) ρ' a' w' h3 Q fun e2 a2 w2 hp => hQ _ _ _ (trans h4 h5 hp hsub)
        | exit j =>
          have he : e = .exit j := h2
          subst he
          cases ho
          exact hQ _ _ _ ⟨_, fr', s', ρ', hsub _ (List.mem_singleton.2 rfl), rfl, h3, h4, h5, h6, h7, h8⟩
        | ret =>
          have he : e = .ret := h2
          subst he
          cases ho
          exact hQ _ _ _ ⟨_, fr', s', ρ', hsub _ (List.mem_singleton.2 rfl), rfl, h3, h4, h5, h6, h7, h8⟩
        | pan v =>
          obtain ⟨u, ru, he⟩ := h2
          subst he
          cases ho
          exact hQ _ _ _ ⟨_, fr', s', ρ', hsub _ (List.mem_singleton.2 rfl), ⟨u, ru, rfl⟩, h3, h4, h5, h6, h7, h8⟩
    exact rounds m fr s outs h hrc ρ a w rs _ fun _ _ _ h => h
  | exit id => intro fr s outs _ h hrc ρ a w rs; exact wpIn_exit (one (.exit id) (.exit id) fr s outs rfl h hrc ρ a w rfl rs)
  | ret => intro fr s outs _ h hrc ρ a w rs; exact wpIn_ret (one .ret .ret fr s outs rfl h hrc ρ a w rfl rs)
  | _ => intro fr s outs hok; simp [okCode] at hok

/-! ### a round -/
theorem resO_spec {f : Ex → Fr → St → Outs} : ∀ {l : List (Ex × Fr × St)} {res : List Out} {e : Ex} {fr : Fr} {s : St}, resO f l = some res → (e, fr, s) ∈ l → ∃ o', f e fr s = some o' ∧ ∀ x ∈ o', x ∈ res
  | [], _, _, _, _, _, h => by cases h
  | (e0, fr0, s0) :: rest, res, e, fr, s, h, hm => by
    simp only [resO] at h
    split at h
    · cases h
    · rename_i a ha
      split at h
      · cases h
        rcases List.mem_cons.1 hm with q | q
        · cases q; exact ⟨_, ha, fun _ h => h⟩
        · cases q
      · split at h
        · cases h
        · rename_i b hb
          cases h
          rcases List.mem_cons.1 hm with q | q
          · cases q; exact ⟨_, ha, fun x h => List.mem_append_left _ h⟩
          · obtain ⟨o', h1, h2⟩ := resO_spec hb q
            exact ⟨o', h1, fun x hx => List.mem_append_right _ (h2 x hx)⟩
theorem setPs_spec {β : Type} {ρ : Map} {n : Nat} : ∀ {ps : List Nat} {args : List AV} {t : T AV} {c : T AV → Option β} {x : β}, setPs n ps args t c = some x → ∀ {vs : List Value} {tmps : Array Value}, RVs ρ args vs → tmps.size = n → (∀ i, RV ρ ((t.get i).getD .undef) (tmps.getD i undef)) →
    ∃ t', c t' = some x ∧ ps.length = vs.length ∧ ((ps.zip vs).foldl (fun (tmps : Array Value) (q : Nat × Value) => tmps.setIfInBounds q.1 q.2) tmps).size = n ∧ ∀ i, RV ρ ((t'.get i).getD .undef) (((ps.zip vs).foldl (fun (tmps : Array Value) (q : Nat × Value) => tmps.setIfInBounds q.1 q.2) tmps).getD i undef)
  | [], [], t, c, x, h, vs, tmps, rv, hs, hr => by
    simp only [RVs] at rv
    subst rv
    exact ⟨t, h, rfl, hs, hr⟩
  | p :: ps, v :: args, t, c, x, h, vs, tmps, ⟨u, us, ru, rs, e⟩, hs, hr => by
    subst e
    simp only [setPs] at h
    split at h
    · rename_i hp
      have hp : p < n := by simpa using hp
      rw [T.setC_eq] at h
      obtain ⟨t', h1, h2, h3, h4⟩ := setPs_spec (tmps := tmps.setIfInBounds p u) h rs (by simpa using hs) (fun i => by
        rw [T.get_set]
        by_cases e : i = p
        · subst e
          rw [if_pos rfl]
          have : (tmps.setIfInBounds i u).getD i undef = u := by
            have hlt : i < tmps.size := by omega
            simp [hlt]
          rw [this]
          exact ru
        · rw [if_neg e]
          have : (tmps.setIfInBounds p u).getD i undef = tmps.getD i undef := by
            simp [Array.getD_eq_getD_getElem?, Array.getElem?_setIfInBounds_ne (Ne.symm e)]
          rw [this]
          exact hr i)
      exact ⟨t', h1, by simp [h2], h3, h4⟩
    · cases h
  | [], _ :: _, _, _, _, h, _, _, _, _, _ => by simp [setPs] at h
  | _ :: _, [], _, _, _, h, _, _, _, _, _ => by simp [setPs] at h

theorem round_sound {call : CallF} (HC : CallOK P G base call) (hm : P.follows .mixedOrders = true) {m k : Nat} {args : List AV} {s : St} {outs : List Out} (h : roundA P G call m k args s = some outs) {ρ : Map} {w : World} {vs : List Value} {e : Ent} (rv : RVs ρ args vs) (rm : RM G base ρ s w) (he : ρ k = some e) :
    MeetsY P ((Instr.yield e.b vs.toArray).run P w) (CallPost base ρ s w outs) := by
  unfold roundA at h
  split at h
  · rename_i st j n t ps as' bd hg
    split at h
    · rename_i oka okb
      obtain ⟨h0, fc⟩ := s
      simp only [natC_eq] at h
      obtain ⟨e0, ob, q1, q2, q3, fn', tmps, d', q4, q5, q6⟩ := rm.rh.blk _ _ hg (by simp)
      rw [he] at q1
      cases q1
      subst q4
      obtain ⟨t', h, hlen, hsz, hall⟩ := setPs_spec h rv q5 q6
      refine ⟨e.b, fn', _, as', bd, w, run_yield q3 (by simpa using hlen.symm), ?_⟩
      have hfold : Array.foldl (fun (tmps : Array Value) (x : Tmp × Value) => match x with | (t, a) => tmps.setIfInBounds t a) tmps (ps.toArray.zip vs.toArray) = (ps.zip vs).foldl (fun (tmps : Array Value) (q : Nat × Value) => tmps.setIfInBounds q.1 q.2) tmps := by
        rw [List.zip_toArray, List.foldl_toArray]
      refine roundIn_of_wpIn (F := Fence.wide) trivial ?_
      show as'.wpIn (Fence.wide.inRound e.b) 0 P _ { tmps := Array.foldl (fun (tmps : Array Value) (x : Tmp × Value) => match x with | (t, a) => tmps.setIfInBounds t a) tmps (ps.toArray.zip vs.toArray), defers := [] } w
      rw [hfold]
      generalize (ps.zip vs).foldl (fun (tmps : Array Value) (q : Nat × Value) => tmps.setIfInBounds q.1 q.2) tmps = tm at hsz hall
      split at h
      · rename_i l hl
        have rs : RS G base 0 ρ ⟨fc, 0, n, t', [], .no⟩ ⟨h0, fc + 1⟩ { tmps := tm, defers := [] } w := by
          have hi : ∀ i, fc * KK ≤ i → ρ i = none := rm.hi
          refine ⟨⟨hsz, hall⟩, ⟨rm.rh, rm.rg, rm.bs, fun i h1 => hi i ?_⟩, fun i h1 _ => hi i ?_, Nat.lt_succ_self _, rfl⟩
          · have h1 : (fc + 1) * KK ≤ i := h1
            rw [succ_KK] at h1; omega
          · have h1 : fc * KK + (0 + 0) ≤ i := h1
            omega
        refine wpIn_mono (code_soundR HC hm m e.b [] as' _ _ l oka hl rfl ρ _ w rs) ?_
        rintro ex a1 w1 ⟨x1, fr1, s1, ρ1, g1, g2, g3, g4, g5, g6, g7, g8⟩
        obtain ⟨o1, ho1, hs1⟩ := resO_spec h g1
        unfold roundB at ho1
        split at ho1
        · rename_i st1 j1 n1 t1 ps1 as1 bd1 hg1
          have hex : ex = .normal := g2
          subst hex
          split at ho1
          · rename_i hst
            have hst := Nat.eq_of_beq_eq_true hst
            subst hst
            obtain ⟨e1, ob1, p1, p2, p3, fn1, tm1, d1, p4, p5, p6⟩ := g3.rm.rh.blk _ _ hg1 (by simp)
            have he1 := g4.st.mono _ _ he
            rw [he1] at p1
            cases p1
            subst p4
            refine ⟨_, run_beginRound p3 rfl, ?_⟩
            have adB := upd_adv (ab' := .loop 1 j1 n1 t1 ps1 as1 bd1) (ob' := .loop { state := .busy, pending := j1, fn := fn1, tmps := tm1, params := ps1.toArray, assign := as1, body := bd1, defers := d1 }) g3.rm hg1 (by simp) (by simp) he1 ⟨fn1, tm1, d1, rfl, p5, p6⟩
            have rsB := g3.call adB
            split at ho1
            · rename_i l2 hl2
              refine wpIn_mono (code_soundR HC hm m e.b [] bd _ _ l2 okb hl2 (g8 rfl) ρ1 _ _ rsB) ?_
              rintro ex a2 w2 ⟨x2, fr2, s2, ρ2, y1, y2, y3, y4, y5, y6, y7, y8⟩
              obtain ⟨o2, ho2, hs2⟩ := resO_spec ho1 y1
              unfold endR at ho2
              split at ho2
              · rename_i st2 j2 n2 t2 ps2 as2 bd2 hg2
                have he2 := y4.st.mono _ _ he1
                have rm2 : RM G base ρ2 s2 w2 := y3.rm
                obtain ⟨e2, ob2, z1, z2, z3, fn2, tm2, d2, z4, z5, z6⟩ := rm2.rh.blk _ _ hg2 (by simp)
                rw [he2] at z1
                cases z1
                subst z4
                have all : Adv base (fun _ => False) ρ ⟨h0, fc⟩ w ρ2 s2 w2 := by
                  refine Adv.callee (s := ⟨h0, fc⟩) ((g4.trans adB.own).trans ?_)
                  have e5 : fr1.fno = fc := g5
                  rw [e5] at y4
                  exact y4
                have fin : ∀ (b : Bool) (jm : Option Code) (st' : Nat), stOf st' = (if jm.isNone then LoopState.ready else .done) → jm.isNone = b → o2 = [.val (.bool b) (s2.upd k (.loop st' jm n2 t2 ps2 as2 bd2))] →
                    ∃ v w', (Instr.endRound e.b jm).run P w2 = .ok v w' ∧ CallPost base ρ ⟨h0, fc⟩ w outs (.returned v) w' := by
                  intro b jm st' hst hjm ho
                  refine ⟨_, _, run_endRound jm z3, ?_⟩
                  have adE := upd_adv (ab' := .loop st' jm n2 t2 ps2 as2 bd2) (ob' := .loop { state := if jm.isNone then .ready else .done, pending := jm, fn := fn2, tmps := tm2, params := ps2.toArray, assign := as2, body := bd2, defers := d2 }) rm2 hg2 (by simp) (by simp) he2 ⟨fn2, tm2, d2, by rw [hst], z5, z6⟩
                  exact ⟨ρ2, .inl ⟨.bool b, _, _, hs1 _ (hs2 _ (by rw [ho]; exact List.mem_singleton.2 rfl)), rfl, by rw [hjm]; rfl, all.trans adE⟩⟩
                cases x2 with
                | normal =>
                  have hex : ex = .normal := y2
                  subst hex
                  cases ho2
                  exact fin true none 0 rfl rfl rfl
                | ret =>
                  have hex : ex = .ret := y2
                  subst hex
                  cases ho2
                  exact fin false (some .ret) 2 rfl rfl rfl
                | exit id =>
                  have hex : ex = .exit id := y2
                  subst hex
                  cases ho2
                  exact fin false (some (.exit id)) 2 rfl rfl rfl
                | pan v => cases ho2
              · cases ho2
            · cases ho1
          · cases ho1
        · cases ho1
      · cases h
    · cases h
  · cases h
end Go.Ai

/-! A frame that leaves, with the marks of its ranges over functions among what is deferred. -/
namespace Go.Ai
open Go
variable {P : Program} {G : Glob} {base : Nat}

/-- what becomes of the frame at what is deferred: a mark, or a call -/
def LvM (P : Program) (fn : Func) (tmps : Array Value) (R : Ending → World → Prop) : List Deferred → FrameMode → World → Prop
  | [], u, w => Leaves P fn tmps R [] u w
  | d :: ds, u, w => u ≠ .run ∧ ((∃ r w', d.target = .collected r ∧ (Instr.takeDeferred r).run P w = .ok [] w' ∧ LvM P fn tmps R ds u w') ∨
      ∃ fv cap f args, d.target = .fn fv cap ∧ (invoke d.target d.args).run P w = .ok (.enter f args) w ∧ CallsD P f args u w fun e u' w' =>
        (∃ v, e = .returned v ∧ LvM P fn tmps R ds (settle u') w'))

theorem lvM_steps {fn : Func} {tmps : Array Value} {R : Ending → World → Prop} : ∀ (ds : List Deferred) (u : FrameMode) (w : World) (fr : Frame) (cs : List Frame), fr.mode = u → fr.defers = ds → fr.tmps = tmps → P.funcs[fr.fn]? = some fn → fr.kind = .normal → LvM P fn tmps R ds u w →
    ∃ e w' fr', R e w' ∧ Comes P (lone fr cs w) (lone fr' cs w') e ∧ fr'.fn = fr.fn ∧ fr'.leaving P w' e
  | [], u, w, fr, cs, h1, h2, h3, h4, h5, h => leaves_steps [] u w fr cs h1 h2 h3 h4 h5 h
  | d :: ds, u, w, fr, cs, h1, h2, h3, h4, h5, ⟨hrun, h⟩ => by
    subst h1
    rcases h with ⟨r, w', htar, htake, hrest⟩ | ⟨fv, cap, f, args, htar, hinv, hcall⟩
    · have s1 := step_collected (cs := cs) hrun h2 htar htake
      obtain ⟨e', w'', fr', g1, g2, g3, g4⟩ := lvM_steps ds fr.mode w' { fr with defers := [] ++ ds } cs rfl rfl h3 h4 h5 hrest
      exact ⟨e', w'', fr', g1, Comes.of_steps (.one s1) g2, g3, g4⟩
    · have s1 := step_defer (cs := cs) hrun h2 htar hinv
      obtain ⟨e, u', w', frX, ⟨v, he, hR⟩, hsteps, hkX, hgo⟩ := hcall { fr with defers := ds } cs rfl
      subst he
      have s2 := step_going_returned (c := { { fr with defers := ds } with mode := u' }) (cs := cs) hkX hgo
      obtain ⟨e', w'', fr', g1, g2, g3, g4⟩ := lvM_steps ds (settle u') w' { { { fr with defers := ds } with mode := u' } with mode := settle u' } cs rfl rfl h3 h4 h5 hR
      exact ⟨e', w'', fr', g1, Comes.of_steps (.head s1 (Steps.trans hsteps (.one s2))) g2, g3, g4⟩

/-- what a body must come to -/
def BodyM (P : Program) (fn : Func) (R : Ending → World → Prop) (e : Exit) (a : Act) (w : World) : Prop :=
  ((e = .normal ∨ e = .ret) ∧ LvM P fn a.tmps R a.defers .returning w) ∨ ∃ chain, e = .panic chain ∧ LvM P fn a.tmps R a.defers (.panicking chain) w

theorem calls_of_marks {f : FuncId} {fn : Func} {c : Code} {args : Array Value} {w : World} {R : Ending → World → Prop} (hf : P.funcs[f]? = some fn) (hb : fn.body = some c)
    (h : c.wp P (BodyM P fn R) { tmps := args ++ Array.replicate (fn.ntmps - args.size) undef, defers := [] } w) : Calls P f args w R := by
  intro cs
  let b : Frame := { (default : Frame) with fn := f, kind := .normal }
  have henter : Frame.enter P f args .normal = b.at { tmps := args ++ Array.replicate (fn.ntmps - args.size) undef, defers := [] } [.code c] := by simp [Frame.enter, Frame.at, hf, hb, b]
  obtain ⟨e, a', w', hq, harr⟩ := h b [] cs
  rw [← henter] at harr
  have go : ∀ (todo : List Item) (u : FrameMode), LvM P fn a'.tmps R a'.defers u w' → Steps P (lone (Frame.enter P f args .normal) cs w) (lone { b.at a' todo with mode := u } cs w') →
      ∃ e w'' fr, R e w'' ∧ Comes P (lone (Frame.enter P f args .normal) cs w) (lone fr cs w'') e ∧ fr.fn = f ∧ fr.leaving P w'' e := fun todo u hl hs => by
    obtain ⟨e', w'', fr', g1, g2, g3, g4⟩ := lvM_steps a'.defers u w' { b.at a' todo with mode := u } cs rfl rfl rfl hf rfl hl
    exact ⟨e', w'', fr', g1, Comes.of_steps hs g2, g3, g4⟩
  rcases hq with ⟨rfl | rfl, hq⟩ | ⟨chain, rfl, hq⟩
  · exact go [] .returning hq (Steps.trans harr (.one step_end))
  · obtain ⟨todo, hs₀⟩ := harr
    exact go todo .returning hq hs₀
  · obtain ⟨todo, hs₀⟩ := harr
    exact go todo (.panicking chain) hq hs₀
end Go.Ai

