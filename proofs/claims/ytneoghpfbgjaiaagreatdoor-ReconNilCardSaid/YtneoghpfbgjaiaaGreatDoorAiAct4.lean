/- A part of an evaluator over an abstract heap and of the proof that it is sound for the model. CONDITIONS: those that each theorem names. -/
import Derived.Test.YtneoghpfbgjaiaaGreatDoorAiAct3
namespace Go.Ai
open Go
variable {P : Program} {ρ : Map} {fr : Fr} {a : Act} {base key : Nat} {s : St} {w : World} {outs : List Out}

/-! ### a new block, a dead one -/
theorem hget_dead (h : Heap) (id : Nat) (i : Nat) : live (hget (hset h id .dead)) i → live (hget h) i ∧ i ≠ id := by
  rintro ⟨x, hx, hd⟩
  rw [hget_upd] at hx
  simp only at hx
  split at hx
  · cases hx; exact absurd rfl hd
  · rename_i hne; exact ⟨⟨x, hx, hd⟩, hne⟩
theorem Stp.dead {h : Heap} (r : RH ρ base (hget h) w) (id : Nat) : Stp ρ base (hget h) w ρ (hget (hset h id .dead)) w := by
  refine ⟨Mono.refl ρ, Keeps.refl _ _, r.sub fun i ab hi hd => ?_, ?_⟩
  · rw [hget_upd] at hi
    simp only at hi
    split at hi
    · cases hi; exact absurd rfl hd
    · exact hi
  · rintro b ⟨i, e, hl, he, hb⟩
    exact .inl ⟨i, e, (hget_dead h id i hl).1, he, hb⟩

theorem RH.fresh {g : GetF} (r : RH ρ base g w) {key : Nat} (hk : ρ key = none) : ¬ live g key := by
  rintro ⟨ab, hg, hd⟩
  obtain ⟨e, _, h1, _⟩ := r.blk key ab hg hd
  rw [hk] at h1; cases h1

/-- a new name for a block that none else names -/
theorem Stp.name {h : Heap} {w' : World} (r : RH ρ base (hget h) w) (hk : ρ key = none) {e : Ent} {blk : AB} {ob : Obj} (hb : base ≤ e.b) (hw : w'.heap[e.b]? = some ob) (ho : ∀ b, b < w.heap.size → b ≠ e.b → w'.heap[b]? = w.heap[b]?)
    (hos : w'.os = w.os) (htp : w'.tape = w.tape) (hou : w'.output = w.output) (hsz : w.heap.size ≤ w'.heap.size)
    (hn : ∀ i e', live (hget h) i → ρ i = some e' → e'.b ≠ e.b) (own : Nat → Prop) (hown : ∀ b, owns ρ (hget h) b → own b) (he : own e.b ∨ w.heap.size ≤ e.b)
    (rb : RB (ext ρ key e) e blk ob) : Mono ρ (ext ρ key e) ∧ Keeps own w w' ∧ RH (ext ρ key e) base (hget (hset h key blk)) w' ∧ (∀ b, owns (ext ρ key e) (hget (hset h key blk)) b → own b ∨ w.heap.size ≤ b) := by
  have hm := ext_mono (e := e) hk
  have hlive : ∀ i, live (hget (hset h key blk)) i → i = key ∨ (i ≠ key ∧ live (hget h) i) := by
    rintro i ⟨x, hx, hd⟩
    rw [hget_upd] at hx
    simp only at hx
    split at hx
    · rename_i heq; exact .inl heq
    · rename_i hne; exact .inr ⟨hne, x, hx, hd⟩
  have hold : ∀ i e', live (hget h) i → ext ρ key e i = some e' → ρ i = some e' := by
    rintro i e' ⟨ab, hg, hd⟩ hi
    obtain ⟨e1, _, h1, _⟩ := r.blk i ab hg hd
    have := hm i e1 h1
    rw [hi] at this; cases this; exact h1
  refine ⟨hm, ⟨hos, htp, hou, hsz, fun b hb' hno => ho b hb' (fun e' => ?_)⟩, ⟨fun i ab hi hd => ?_, fun i j e1 e2 li lj hi hj hbb => ?_⟩, ?_⟩
  · subst e'; rcases he with he | he
    · exact hno he
    · omega
  · rw [hget_upd] at hi
    simp only at hi
    split at hi
    · rename_i heq; subst heq; cases hi
      exact ⟨e, ob, ext_self _ _, hb, hw, rb⟩
    · obtain ⟨e', ob', h1, h2, h3, h4⟩ := r.blk i ab hi hd
      have hlt := r.size hi hd h1
      exact ⟨e', ob', hm _ _ h1, h2, by rw [ho _ hlt (hn i e' ⟨ab, hi, hd⟩ h1)]; exact h3, h4.mono hm⟩
  · rcases hlive i li with hi' | ⟨_, li'⟩ <;> rcases hlive j lj with hj' | ⟨_, lj'⟩
    · rw [hi', hj']
    · subst hi'
      rw [ext_self] at hi; cases hi
      exact absurd hbb.symm (hn j e2 lj' (hold j e2 lj' hj))
    · subst hj'
      rw [ext_self] at hj; cases hj
      exact absurd hbb (hn i e1 li' (hold i e1 li' hi))
    · exact r.inj i j e1 e2 li' lj' (hold i e1 li' hi) (hold j e2 lj' hj) hbb
  · rintro b ⟨i, e', hl, hi, hbb⟩
    rcases hlive i hl with heq | ⟨_, hl'⟩
    · subst heq; rw [ext_self] at hi; cases hi
      subst hbb
      exact he
    · exact .inl (hown b ⟨i, e', hl', hold i e' hl' hi, hbb⟩)

theorem alloc_heap (w : World) (ob : Obj) : (w.alloc ob).heap[w.heap.size]? = some ob ∧ (∀ b, b < w.heap.size → (w.alloc ob).heap[b]? = w.heap[b]?) ∧ w.heap.size ≤ (w.alloc ob).heap.size := by
  have e : (w.alloc ob).heap = w.heap.push ob := rfl
  rw [e]
  refine ⟨by simp, fun b hb => ?_, by simp⟩
  have hne : b ≠ w.heap.size := by omega
  simp [Array.getElem?_push, hne]

theorem Stp.new {h : Heap} (r : RH ρ base (hget h) w) (hk : ρ key = none) (hb : base ≤ w.heap.size) {k o : Nat} {blk : AB} {ob : Obj} (rb : RB (ext ρ key ⟨w.heap.size, o, k⟩) ⟨w.heap.size, o, k⟩ blk ob) :
    Stp ρ base (hget h) w (ext ρ key ⟨w.heap.size, o, k⟩) (hget (hset h key blk)) (w.alloc ob) := by
  obtain ⟨h1, h2, h3⟩ := alloc_heap w ob
  obtain ⟨g1, g2, g3, g4⟩ := Stp.name r hk (e := ⟨w.heap.size, o, k⟩) hb h1 (fun b hb' _ => h2 b hb') rfl rfl rfl h3 (fun i e' ⟨ab, hg, hd⟩ he => by have := r.size hg hd he; simp only; omega) _ (fun _ h => h) (.inr (Nat.le_refl _)) rb
  exact ⟨g1, g2, g3, g4⟩

/-! ### what is copied -/
theorem bytes_cells (s : List UInt8) (m : Nat) : RVs ρ ((s.map fun b => AV.int .u8 b.toNat).take m) ((s.map fun b => Value.int .u8 (b.toNat : Int)).take m) := by
  refine RVs.take m ?_
  induction s with
  | nil => rfl
  | cons b s ih => exact ⟨_, _, rfl, ih, rfl⟩

theorem srcCells_sound {h : Heap} (rh : RH ρ base (hget h) w) {es : Nat} {b : AV} {n : Nat} {cs : List AV} (hs : srcCells h es b = some (n, cs)) {x : Value} (rx : RV ρ b x) :
    (∀ w' : World, (Builtin.lenOf x).run P w' = .ok n w') ∧ cs.length = n * es ∧ ∃ us, RVs ρ cs us ∧
      ∀ (w' : World), w'.heap = w.heap → ∀ m, m ≤ n → (Builtin.firstCells es m x).run P w' = .ok (us.take (m * es)).toArray w' := by
  unfold srcCells at hs
  split at hs
  · cases hs
    simp only [RV] at rx; subst rx
    exact ⟨fun _ => rfl, by simp, [], rfl, fun w' _ m _ => by simp [Builtin.firstCells]⟩
  · rename_i id off eo len cap
    split at hs
    · rename_i cs' hcs
      cases hs
      obtain ⟨ad, n', c', hx⟩ := rv_slice_some rx
      obtain ⟨en, hen, rx⟩ := rx
      obtain ⟨hl, vs, rs, hcell⟩ := readCells_rv rh hcs hen
      have hx2 : ∃ o' c2, x = .slice (some ⟨en.b, en.o + o', none⟩) n c2 ∧ (0 < n → o' = off) := by
        cases cap with
        | some c => obtain ⟨o', h1, h2, h3⟩ := rx; exact ⟨o', c, h3, fun hp => h2 (by omega)⟩
        | none => obtain ⟨o', h1, h2, h3⟩ := rx; exact ⟨o', _, h3, fun hp => h2 (by omega)⟩
      obtain ⟨o', c2, hx2, ho⟩ := hx2
      subst hx2
      refine ⟨fun _ => rfl, hl, vs, rs, fun w' hw m hm => ?_⟩
      have hlen : vs.length = n * es := by rw [← RVs.length rs, hl]
      refine run_firstCells_some (P := P) w' es m _ n c2 (vs.take (m * es)) (by rw [List.length_take, hlen]; exact Nat.min_eq_left (Nat.mul_le_mul_right _ hm)) (fun j u hj => ?_)
      have hj' : vs[j]? = some u := by
        rw [List.getElem?_take] at hj
        split at hj
        · exact hj
        · cases hj
      have hjl : j < vs.length := (List.getElem?_eq_some_iff.1 hj').1
      have hn0 : 0 < n := by
        rcases Nat.eq_zero_or_pos n with h0 | h0
        · subst h0; simp at hlen; simp [hlen] at hjl
        · exact h0
      have := ho hn0
      subst this
      have hc := hcell j u hj'
      simp only [World.cell?, hw] at hc ⊢
      exact hc
    · cases hs
  · rename_i s
    split at hs
    · rename_i he
      have he := Nat.eq_of_beq_eq_true he
      subst he
      cases hs
      simp only [RV] at rx; subst rx
      refine ⟨fun w' => by simp [Builtin.lenOf, ByteArray.size], by simp, s.map fun b => Value.int .u8 (b.toNat : Int), ?_, fun w' _ m hm => ?_⟩
      · have := bytes_cells (ρ := ρ) s s.length
        simpa [List.take_of_length_le] using this
      · simp only [Builtin.firstCells, Sem.run_pure, Nat.mul_one]
        congr 1
        apply Array.ext'
        simp [List.map_take]
    · cases hs
  · cases hs

section
variable {dst : Option Tmp} {c : Call} {ty : TypeId} {pos : String} {after : Array Edge} {gd : Option (Nat × Bool)}

theorem exec_builtin {b : Builtin} (hb : c.callee = .builtin b) : execOp a.eval ⟨dst, .call c, ty, pos, after, gd⟩ = builtin b c.argTypes ty (c.args.map fun | .const _ => true | _ => false) (c.args.map a.eval) :=
  run_builtin_len hb a.eval ty

theorem arg_of {l : List Operand} (h : c.args.toList = l) (i : Nat) : (c.args.map a.eval)[i]? = (l[i]?).map a.eval := by
  rw [← h]; simp
theorem typ_of {l : List TypeId} (h : c.argTypes.toList = l) (i : Nat) : c.argTypes[i]? = l[i]? := by
  rw [← h]; simp

theorem delK_spec {t : TypeId} {k : AV} {es es' : MEs} (h : delK P t k es = some es') : keyOk P t k = true ∧ ((findK P t k es 0 = some none ∧ es' = es) ∨ ∃ i x, findK P t k es 0 = some (some (i, x)) ∧ es' = dropAt es i) := by
  unfold delK at h
  split at h
  · rename_i hk
    refine ⟨hk, ?_⟩
    unfold delK2 at h
    split at h
    · rename_i hf; cases h; exact .inl ⟨hf, rfl⟩
    · rename_i i k' v b hf
      simp only [listC_eq, Option.some.injEq] at h
      exact .inr ⟨i, _, hf, h.symm⟩
    · cases h
  · cases h

theorem AO.builtin {b : Builtin} (hb : c.callee = .builtin b) {S : Sem Value} (hS : builtin b c.argTypes ty (c.args.map fun | .const _ => true | _ => false) (c.args.map a.eval) = (do pure (.value (← S)))) {w' : World} {s' : St} {v : AV} {u : Value}
    (hr : S.run P w = .ok u w') (hs : Stp ρ base (hget s.h) w ρ (hget s'.h) w') (hfc : s'.fc = s.fc) (ru : RV ρ v u) :
    Some1 P ρ base key s w ((execOp a.eval ⟨dst, .call c, ty, pos, after, gd⟩).run P w) [.val v s'] := by
  rw [exec_builtin hb, hS]
  exact .one (AO.value hr hs hfc ru)

theorem rv_unit : RV ρ .undef (.tuple #[]) := ⟨[], rfl, rfl⟩

theorem a_delete (hb : c.callee = .builtin .delete) (rh : RH ρ base (hget s.h) w) (r : RF ρ fr a) (h : aDl P fr s c.argTypes.toList c.args.toList = some outs) :
    Some1 P ρ base key s w ((execOp a.eval ⟨dst, .call c, ty, pos, after, gd⟩).run P w) outs := by
  unfold aDl at h
  split at h
  · rename_i t l x y ht hxy
    have e0 := typ_of ht 0
    have e1 := arg_of (a := a) hxy 0
    have e2 := arg_of (a := a) hxy 1
    simp only [List.getElem?_cons_zero, List.getElem?_cons_succ, Option.map_some] at e0 e1 e2
    unfold aDl1 at h
    split at h
    · rename_i kt et id kk hd hm hk
      unfold aDl2 at h
      split at h
      · rename_i es clock hg
        unfold aES3 at h
        split at h
        · rename_i es' hs
          cases h
          obtain ⟨e, he, hx⟩ := r.ev hm
          obtain ⟨ents, hbk, re⟩ := rh.map hg he
          obtain ⟨hko, hc⟩ := delK_spec hs
          obtain ⟨dk, hdk⟩ := keyOk_und hko
          have rk := r.ev hk
          obtain ⟨u1, u2⟩ := upd_h s id (.map es' clock)
          rcases hc with ⟨hf, rfl⟩ | ⟨i, q, hf, rfl⟩
          · obtain ⟨o', f1, f2⟩ := findKey_sound hdk rk w hf re
            simp only [Found] at f2; subst f2
            obtain ⟨w', hr, hst⟩ := Stp.map (P := P) rh hg he (clock' := clock) (es' := es') (ents' := ents) re
            refine AO.builtin hb rfl (w' := w') (u := .tuple #[]) ?_ (by rw [u1]; exact hst) u2 rv_unit
            simp only [Builtin.delete_, e0, e1, e2, Sem.run_bind, run_und hd, Result.andThen_ok, hx, run_getObj hbk (by simp), check_sound hko rk, f1, hr, Sem.run_pure]
          · obtain ⟨o', f1, f2⟩ := findKey_sound hdk rk w hf re
            obtain ⟨q1, q2, q3⟩ := q
            obtain ⟨k'', v'', rfl, _, _, _, hl⟩ := f2
            have hl' : ents.toList[i]? = some ⟨k'', v'', q3⟩ := by simpa using hl
            have hlt : i < ents.size := by have := (List.getElem?_eq_some_iff.1 hl').1; simpa using this
            have her : (ents.eraseIdxIfInBounds i).toList = ents.toList.eraseIdx i := by simp [Array.eraseIdxIfInBounds, hlt]
            obtain ⟨w', hr, hst⟩ := Stp.map (P := P) rh hg he (clock' := clock) (es' := dropAt es i) (ents' := ents.eraseIdxIfInBounds i) (by rw [her]; exact RE_drop re)
            refine AO.builtin hb rfl (w' := w') (u := .tuple #[]) ?_ (by rw [u1]; exact hst) u2 rv_unit
            simp only [Builtin.delete_, e0, e1, e2, Sem.run_bind, run_und hd, Result.andThen_ok, hx, run_getObj hbk (by simp), check_sound hko rk, f1, hr, Sem.run_pure]
        · cases h
      · cases h
    · cases h
  · cases h

theorem writes_slice {id off eo len : Nat} {cap : Option Nat} {x : Value} (rx : RV ρ (.slice id off eo len cap) x) : ∃ e o' cc, ρ id = some e ∧ x = .slice (some ⟨e.b, e.o + o', none⟩) len cc ∧ (0 < len → o' = off) := by
  obtain ⟨en, hen, rx⟩ := rx
  cases cap with
  | some c => obtain ⟨o', h1, h2, h3⟩ := rx; exact ⟨en, o', c, hen, h3, fun hp => h2 (by omega)⟩
  | none => obtain ⟨o', h1, h2, h3⟩ := rx; exact ⟨en, o', _, hen, h3, fun hp => h2 (by omega)⟩

theorem storeCells_nil (ad : Addr) (w : World) : (storeCells ad []).run P w = .ok () w := rfl

/-- cells written at a slice's start -/
theorem Stp.writeS {h h' : Heap} (r : RH ρ base (hget h) w) {id off eo len : Nat} {cap : Option Nat} {vs : List AV} (hw : writeCells h id off vs = some h') (hv : 0 < vs.length → 0 < len) {x : Value} (rx : RV ρ (.slice id off eo len cap) x) {us : List Value} (ru : RVs ρ vs us) :
    ∃ ad cc w', x = .slice (some ad) len cc ∧ (storeCells ad us).run P w = .ok () w' ∧ Stp ρ base (hget h) w ρ (hget h') w' := by
  obtain ⟨e, o', cc, he, rfl, ho⟩ := writes_slice rx
  obtain ⟨w', h1, h2⟩ := Stp.write (P := P) r hw he ru
  rcases Nat.eq_zero_or_pos vs.length with h0 | h0
  · have : us = [] := List.length_eq_zero_iff.1 (by rw [← RVs.length ru]; exact h0)
    subst this
    have : w' = w := by rw [storeCells_nil] at h1; cases h1; rfl
    subst this
    exact ⟨_, cc, w', rfl, storeCells_nil _ _, h2⟩
  · have := ho (hv h0)
    subst this
    exact ⟨_, cc, w', rfl, h1, h2⟩

theorem a_copy (hb : c.callee = .builtin .copy) (rh : RH ρ base (hget s.h) w) (r : RF ρ fr a) (h : aCp P fr s c.argTypes.toList c.args.toList = some outs) :
    Some1 P ρ base key s w ((execOp a.eval ⟨dst, .call c, ty, pos, after, gd⟩).run P w) outs := by
  unfold aCp at h
  split at h
  · rename_i t l x y ht hxy
    have e0 := typ_of ht 0
    have e1 := arg_of (a := a) hxy 0
    have e2 := arg_of (a := a) hxy 1
    simp only [List.getElem?_cons_zero, List.getElem?_cons_succ, Option.map_some] at e0 e1 e2
    unfold aCp2 at h
    split at h
    · rename_i e id off eo len cap b hd hx hy
      split at h
      · rename_i es hes
        unfold aCp3 at h
        split at h
        · rename_i n cs hsrc
          obtain ⟨s', ho, rfl⟩ := oneOut_spec h
          obtain ⟨h', hw, rfl⟩ := upH_spec ho
          obtain ⟨g1, g2, us, g3, g4⟩ := srcCells_sound (P := P) rh hsrc (r.ev hy)
          have hlen : (cs.take (Nat.min n len * es)).length = Nat.min n len * es := by rw [List.length_take, g2]; exact Nat.min_eq_left (Nat.mul_le_mul_right _ (Nat.min_le_left _ _))
          obtain ⟨ad, cc, w', hax, hst, hstp⟩ := Stp.writeS (P := P) rh hw (fun hp => by
            rw [hlen] at hp
            rcases Nat.eq_zero_or_pos len with h0 | h0
            · subst h0; simp at hp
            · exact h0) (r.ev hx) (RVs.take (Nat.min n len * es) g3)
          refine AO.builtin hb rfl (w' := w') (u := goInt (Nat.min n len)) ?_ hstp rfl rfl
          simp only [Builtin.copy_, e0, e1, e2, Sem.run_bind, run_und hd, Result.andThen_ok, hax, g1, run_sizeT hes, g4 w rfl _ (Nat.min_le_left n len), hst, Sem.run_pure]
        · cases h
      · cases h
    · rename_i e b hd hx hy
      split at h
      · rename_i es hes
        unfold aCp0 at h
        split at h
        · rename_i q hsrc
          cases h
          obtain ⟨n, cs⟩ := q
          obtain ⟨g1, g2, us, g3, g4⟩ := srcCells_sound (P := P) rh hsrc (r.ev hy)
          have hax := r.ev hx
          simp only [RV] at hax
          refine AO.builtin hb rfl (w' := w) (u := goInt 0) ?_ (Stp.same rh) rfl rfl
          have hm : Nat.min n 0 = 0 := by simp
          simp only [Builtin.copy_, e0, e1, e2, Sem.run_bind, run_und hd, Result.andThen_ok, hax, g1, run_sizeT hes, hm, g4 w rfl 0 (Nat.zero_le _), Sem.run_pure]
          rfl
        · cases h
      · cases h
    · cases h
  · cases h

theorem a_clear (hb : c.callee = .builtin .clear) (rh : RH ρ base (hget s.h) w) (r : RF ρ fr a) (h : aCl P fr s c.argTypes.toList c.args.toList = some outs) :
    Some1 P ρ base key s w ((execOp a.eval ⟨dst, .call c, ty, pos, after, gd⟩).run P w) outs := by
  unfold aCl at h
  split at h
  · rename_i t l x ht hxy
    have e0 := typ_of ht 0
    have e1 := arg_of (a := a) hxy 0
    simp only [List.getElem?_cons_zero, Option.map_some] at e0 e1
    unfold aCl2 at h
    split at h
    · rename_i e id off eo len cap hd hx
      unfold aCl3 at h
      split at h
      · rename_i z n hz hn
        split at h
        · rename_i hzn
          have hzn := Nat.eq_of_beq_eq_true hzn
          obtain ⟨s', ho, rfl⟩ := oneOut_spec h
          obtain ⟨h', hw, rfl⟩ := upH_spec ho
          obtain ⟨zu, hzu, _, rz⟩ := zero_rv (ρ := ρ) hz
          have rr := repl_rv rz len
          obtain ⟨ad, cc, w', hax, hst, hstp⟩ := Stp.writeS (P := P) rh hw (fun hp => by
            rw [repl_length] at hp
            exact Nat.pos_of_mul_pos_right hp) (r.ev hx) rr
          refine AO.builtin hb rfl (w' := w') (u := .tuple #[]) ?_ hstp rfl rv_unit
          have hz0 : (Builtin.zeroCells zu.cells len).toList = repl zu.cells.toList len := by
            unfold Builtin.zeroCells
            rw [zero_fill zu.cells len zu.cells.size rfl]
          simp only [Builtin.clear_, e0, e1, Sem.run_bind, run_und hd, Result.andThen_ok, hax]
          cases len with
          | zero =>
            have : w' = w := by
              have hst' := hst
              simp only [repl] at hst'
              rw [storeCells_nil] at hst'; cases hst'; rfl
            subst this
            rfl
          | succ len =>
            simp only [Sem.run_bind, hzu, Result.andThen_ok, hz0, hst, Sem.run_pure]
        · cases h
      · cases h
    · cases h
  · cases h

theorem evs_of {l : List AV} {xs : List Operand} (r : RF ρ fr a) (h : evs fr xs = some l) : RVs ρ l (xs.map a.eval) := r.evs h

theorem a_max (hb : c.callee = .builtin .max) (rh : RH ρ base (hget s.h) w) (r : RF ρ fr a) (h : aMx s (evs fr c.args.toList) = some outs) :
    Some1 P ρ base key s w ((execOp a.eval ⟨dst, .call c, ty, pos, after, gd⟩).run P w) outs := by
  unfold aMx at h
  split at h
  · rename_i k x k' y he
    split at h
    · rename_i hk
      cases h
      obtain ⟨u1, us1, r1, ⟨u2, us2, r2, r3, e2⟩, e1⟩ := evs_of r he
      simp only [RV] at r1 r2
      simp only [RVs] at r3
      subst r1 r2 r3 e2
      have hk := of_decide_eq_true hk
      subst hk
      refine AO.builtin hb rfl (w' := w) (u := .int k (if y > x then y else x)) ?_ (Stp.same rh) rfl ?_
      · have : (c.args.map a.eval).toList = [.int k x, .int k y] := by rw [Array.toList_map]; exact e1
        simp only [Builtin.max_, this, List.foldlM_cons, List.foldlM_nil, Builtin.max2, Sem.run_bind, Sem.run_pure, Result.andThen_ok]
      · by_cases hxy : x < y
        · simp [ltInt, hxy, RV]
        · simp [ltInt, hxy, RV]
    · cases h
  · cases h
theorem a_min (hb : c.callee = .builtin .min) (rh : RH ρ base (hget s.h) w) (r : RF ρ fr a) (h : aMn s (evs fr c.args.toList) = some outs) :
    Some1 P ρ base key s w ((execOp a.eval ⟨dst, .call c, ty, pos, after, gd⟩).run P w) outs := by
  unfold aMn at h
  split at h
  · rename_i k x k' y he
    split at h
    · rename_i hk
      cases h
      obtain ⟨u1, us1, r1, ⟨u2, us2, r2, r3, e2⟩, e1⟩ := evs_of r he
      simp only [RV] at r1 r2
      simp only [RVs] at r3
      subst r1 r2 r3 e2
      have hk := of_decide_eq_true hk
      subst hk
      refine AO.builtin hb rfl (w' := w) (u := .int k (if y < x then y else x)) ?_ (Stp.same rh) rfl ?_
      · have : (c.args.map a.eval).toList = [.int k x, .int k y] := by rw [Array.toList_map]; exact e1
        simp only [Builtin.min_, this, List.foldlM_cons, List.foldlM_nil, Builtin.min2, Sem.run_bind, Sem.run_pure, Result.andThen_ok]
      · by_cases hxy : y < x
        · simp [ltInt, hxy, RV]
        · simp [ltInt, hxy, RV]
    · cases h
  · cases h
end
end Go.Ai
