/- A part of an evaluator over an abstract heap and of the proof that it is sound for the model. CONDITIONS: those that each theorem names. -/
import Derived.Test.YtneoghpfbgjaiaaGreatDoorAiMap
namespace Go.Ai
open Go
variable {P : Program} {ρ : Map} {fr : Fr} {a : Act} {v : AV} {base : Nat} {h : Heap} {w : World}

theorem find_res {ρ : Map} : ∀ {es : MEs} {l : List MapEntry} {st : Nat} {e : AV × AV × Nat}, es.find? (fun e => Nat.beq e.2.2 st) = some e → REs ρ es l →
    ∃ k' v', l.find? (fun e => e.born == st) = some ⟨k', v', e.2.2⟩ ∧ RV ρ e.1 k' ∧ RV ρ e.2.1 v'
  | [], _, st, e, h, r => by simp at h
  | (k, v, b) :: es, _, st, e, h, ⟨k', v', l', rk, rv, rs, e1⟩ => by
    subst e1
    simp only [List.find?_cons] at h
    cases hb : Nat.beq b st with
    | true =>
      simp only [hb] at h
      cases h
      have : b = st := Nat.eq_of_beq_eq_true hb
      exact ⟨k', v', by simp [this], rk, rv⟩
    | false =>
      simp only [hb] at h
      obtain ⟨k2, v2, h1, h2, h3⟩ := find_res h rs
      have : b ≠ st := by intro e; subst e; simp at hb
      refine ⟨k2, v2, ?_, h2, h3⟩
      rw [List.find?_cons]
      have hbe : (b == st) = false := by simpa using this
      simp only [hbe]
      exact h1

theorem r_entry (rh : RH ρ base (hget h) w) {it : Operand} (r : RF ρ fr a) (hr : rEn h (fr.ev it) = some v) : ∃ u, (Instr.entry (a.eval it)).run P w = .ok u w ∧ RV ρ v u := by
  unfold rEn at hr
  split at hr
  · rename_i id hv
    obtain ⟨e, he, hx⟩ := r.ev hv
    unfold rEn1 at hr
    split at hr
    · rename_i m since seen stepped hg
      obtain ⟨e1, ob, h1, h2, h3, m', h0, h4, e2, he2, hm'⟩ := rh.blk id _ hg (by simp)
      rw [he] at h1; cases h1
      subst h4 hm'
      unfold rEn2 at hr
      split at hr
      · rename_i es clock hg2
        obtain ⟨e3, ob3, k1, k2, k3, ents, k4, k5⟩ := rh.blk m _ hg2 (by simp)
        rw [he2] at k1; cases k1
        subst k4
        split at hr
        · rename_i st hb hs
          unfold rEn3 at hr
          split at hr
          · rename_i en hen
            cases hr
            obtain ⟨k', v', f1, f2, f3⟩ := find_res hen k5
            have hcl : clock = stepped := Nat.eq_of_beq_eq_true hb
            subst hcl
            refine ⟨.tuple #[k', v'], ?_, ⟨[k', v'], ⟨_, _, f2, ⟨_, _, f3, rfl, rfl⟩, rfl⟩, rfl⟩⟩
            have hx' : a.eval it = .pointer (some ⟨e.b, 0, none⟩) := by rw [hx, h0]
            have hback : seen.toArray.back? = some st := by rw [List.back?_toArray]; exact hs
            rw [hx']
            simp only [Instr.entry, Sem.run_bind, run_getObj h3 (by simp), Result.andThen_ok, hback, run_getObj k3 (by simp), bne_self_eq_false, Bool.false_eq_true, if_false]
            have hf : ents.find? (fun x => x.born == st) = some ⟨k', v', en.2.2⟩ := by rw [← Array.find?_toList]; exact f1
            simp only [Sem.run_pure, hf]
          · cases hr
        · cases hr
      · cases hr
    · cases hr
  · cases hr

theorem bytes_rv {ρ : Map} : ∀ {cs : List AV} {vs : List Value} {l : List UInt8}, bytesOfA cs = some l → RVs ρ cs vs → vs = (l.map (fun b => (b.toNat : Int))).map (.int .u8)
  | [], vs, l, h, r => by simp only [bytesOfA, Option.some.injEq] at h; subst h; simpa [RVs] using r
  | c :: cs, _, l, h, ⟨v, vs, rc, rs, e⟩ => by
    subst e
    unfold bytesOfA at h
    split at h
    · cases ‹_ :: _ = []›
    · rename_i n r heq
      cases heq
      split at h
      · rename_i l' hb hl'
        cases h
        have ih := bytes_rv hl' rs
        have hn : n < 256 := by simpa using hb
        simp only [RV] at rc
        subst rc
        rw [ih]
        have : (UInt8.ofNat n).toNat = n := by simp [UInt8.toNat_ofNat']; omega
        simp [this]
      · cases h
    · cases h

theorem foldl_bytes : ∀ (l : List UInt8) (s : ByteArray), (l.map (fun b => (b.toNat : Int))).foldl (fun r n => r.push (UInt8.ofNat n.toNat)) s = ⟨(s.data.toList ++ l).toArray⟩
  | [], s => by simp
  | b :: l, s => by
    simp only [List.map_cons, List.foldl_cons]
    rw [foldl_bytes l]
    simp [ByteArray.push]

theorem conv_sound {src dst : TypeId} {p : AV} (h : convA P src dst p = some v) {x : Value} (r : RV ρ p x) (w : World) : ∃ u, (convert src dst x).run P w = .ok u w ∧ RV ρ v u := by
  unfold convA at h
  split at h
  · rename_i d k k' n hs hd
    cases h
    simp only [RV] at r; subst r
    refine ⟨.int k (k.wrap n), ?_, rfl⟩
    simp [convert, run_und hs, run_und hd, Conv.intToInt]
  · rename_i d k n hs hd
    cases h
    simp only [RV] at r; subst r
    refine ⟨.string (Utf8.encode n), ?_, ?_⟩
    · simp [convert, run_und hs, run_und hd, Conv.intToString]
    · simp [RV]
  · rename_i d s hs hd
    cases h
    have r' := r
    simp only [RV] at r; subst r
    refine ⟨_, ?_, r'⟩
    simp [convert, run_und hs, run_und hd]
  · cases h

theorem isBytes_spec {src dst : TypeId} (h : isBytes P src dst = true) : ∃ e, P.underlying src = some (.slice e) ∧ P.underlying e = some (.int .u8) ∧ P.underlying dst = some .string := by
  unfold isBytes at h
  split at h
  · rename_i e hs hd
    split at h
    · rename_i he; exact ⟨e, hs, he, hd⟩
    · cases h
  · cases h

theorem r_convert (rh : RH ρ base (hget h) w) {src dst : TypeId} {x : Operand} (r : RF ρ fr a) (hr : rCv P h src dst (fr.ev x) = some v) :
    ∃ u, (convert src dst (a.eval x)).run P w = .ok u w ∧ RV ρ v u := by
  unfold rCv at hr
  split at hr
  · rename_i id off eo len cap hv
    split at hr
    · rename_i hb
      obtain ⟨e, hs, he, hd⟩ := isBytes_spec hb
      unfold rCvB at hr
      split at hr
      · rename_i cs hcs
        unfold someStr at hr
        split at hr
        · rename_i bs hbs
          cases hr
          have rx := r.ev hv
          obtain ⟨ad, n, c', hx⟩ := rv_slice_some rx
          obtain ⟨en, hen, rx⟩ := rx
          obtain ⟨hl, vs, rs, hcell⟩ := readCells_rv rh hcs hen
          have hvs := bytes_rv hbs rs
          have hlen : vs.length = len := by rw [← RVs.length rs, hl]
          have hx2 : ∃ o' c2, a.eval x = .slice (some ⟨en.b, en.o + o', none⟩) len c2 ∧ (0 < len → o' = off) := by
            cases cap with
            | some c => obtain ⟨o', h1, h2, h3⟩ := rx; exact ⟨o', c, h3, fun hp => h2 (by omega)⟩
            | none => obtain ⟨o', h1, h2, h3⟩ := rx; exact ⟨o', _, h3, fun hp => h2 (by omega)⟩
          obtain ⟨o', c2, hx2, ho⟩ := hx2
          have hload : (loadCells ⟨en.b, en.o + o', none⟩ len).run P w = .ok vs.toArray w := by
            rw [← hlen]
            refine run_loadCells_list (P := P) w _ vs (fun j u hj => ?_)
            have : o' = off := ho (by rcases vs with _ | ⟨_, _⟩ <;> simp at hj hlen <;> omega)
            subst this
            exact hcell j u hj
          refine ⟨.string ⟨bs.toArray⟩, ?_, rfl⟩
          rw [hx2, run_convert_bytes_string w src dst e _ len c2 hs he hd, run_bytesToString w _ len c2 (bs.map fun b => (b.toNat : Int)) (by rw [hload, hvs]), foldl_bytes]
          simp
        · cases hr
      · cases hr
    · cases hr
  · rename_i hv
    split at hr
    · rename_i hb
      cases hr
      obtain ⟨e, hs, he, hd⟩ := isBytes_spec hb
      have rx := r.ev hv
      simp only [RV] at rx
      refine ⟨.string .empty, ?_, ?_⟩
      · rw [rx, run_convert_bytes_string w src dst e _ 0 0 hs he hd]; rfl
      · simp only [RV]; rfl
    · cases hr
  · rename_i p _ _ hv
    exact conv_sound hr (r.ev hv) w
  · cases hr

theorem len_sound {t ty : TypeId} {p : AV} (h : lenA P t p = some v) {x : Value} (r : RV ρ p x) (w : World) : ∃ u, (Builtin.len_ #[t] ty #[x]).run P w = .ok u w ∧ RV ρ v u := by
  unfold lenA at h
  split at h
  · rename_i s hd
    cases h
    simp only [RV] at r; subst r
    refine ⟨.int .i64 s.length, ?_, rfl⟩
    have hsz : (ByteArray.mk s.toArray).size = s.length := by simp [ByteArray.size]
    simp [Builtin.len_, run_und hd, goInt, hsz]
  · rename_i n e hd
    cases h
    refine ⟨.int .i64 n, ?_, rfl⟩
    simp [Builtin.len_, run_und hd, goInt]
  · rename_i e hd
    cases h
    simp only [RV] at r; subst r
    refine ⟨.int .i64 0, ?_, rfl⟩
    simp [Builtin.len_, run_und hd, goInt]
  · rename_i e id off eo n c hd
    cases h
    obtain ⟨en, hen, r⟩ := r
    refine ⟨.int .i64 n, ?_, rfl⟩
    cases c with
    | some c => obtain ⟨o', h1, h2, h3⟩ := r; subst h3; simp [Builtin.len_, run_und hd, goInt]
    | none => obtain ⟨o', h1, h2, h3⟩ := r; subst h3; simp [Builtin.len_, run_und hd, goInt]
  · rename_i k e hd
    cases h
    simp only [RV] at r; subst r
    refine ⟨.int .i64 0, ?_, rfl⟩
    simp [Builtin.len_, run_und hd, goInt]
  · rename_i ar hd
    split at h
    · rename_i n e he
      cases h
      refine ⟨.int .i64 n, ?_, rfl⟩
      simp [Builtin.len_, run_und hd, run_und he, goInt]
    · cases h
  · cases h

theorem len_first {ats : Array TypeId} {ty t : TypeId} {args : Array Value} {x : Value} (h1 : ats[0]? = some t) (h2 : args[0]? = some x) : Builtin.len_ ats ty args = Builtin.len_ #[t] ty #[x] := by
  unfold Builtin.len_
  rw [h1, h2]
  rfl

theorem len_map {t ty : TypeId} {id : Nat} {p : AV} (rh : RH ρ base (hget h) w) (hv : rLenM (P.underlying t) (hget h id) = some p) {x : Value} (r : RV ρ (.map id) x) :
    ∃ u, (Builtin.len_ #[t] ty #[x]).run P w = .ok u w ∧ RV ρ p u := by
  unfold rLenM at hv
  split at hv
  · rename_i k e es clock hd hg
    cases hv
    obtain ⟨en, he, hx⟩ := r
    obtain ⟨e', ob, h1, h2, h3, ents, h4, h5⟩ := rh.blk id _ hg (by simp)
    rw [he] at h1; cases h1
    subst h4 hx
    refine ⟨.int .i64 es.length, ?_, rfl⟩
    have : es.length = ents.size := by simpa using REs.length h5
    simp only [Builtin.len_, List.getElem?_toArray, List.getElem?_cons_zero, Sem.run_bind, run_und hd, Result.andThen_ok, run_getObj h3 (by simp), goInt, this, Sem.run_pure]
  · cases hv

theorem run_builtin_len {c : Call} {b : Builtin} (hb : c.callee = .builtin b) (ev : Operand → Value) (ty : TypeId) :
    (do let d ← resolve ev c ty; invoke d.target d.args : Sem Next) = builtin b c.argTypes ty (c.args.map fun | .const _ => true | _ => false) (c.args.map ev) := by
  simp only [resolve, hb]
  rfl

/-- THE OPERATIONS THAT LOOK INTO MEMORY. -/
theorem read_sound {G : Glob} (rh : RH ρ base (hget h) w) (rg : RG G base w) {o : Oper} (r : RF ρ fr a) (hr : readOp P G fr h o.op = some v) :
    ∃ u, (execOp a.eval o).run P w = .ok (.value u) w ∧ RV ρ v u := by
  obtain ⟨dst, op, ty, pos, after, gd⟩ := o
  simp only at hr
  unfold readOp at hr
  split at hr
  · rename_i t x
    unfold rLd at hr
    split at hr
    · rename_i p hp
      obtain ⟨u, hu, ru, _⟩ := loadA_rv rh rg hr (r.ev hp)
      exact ⟨u, by simp [execOp, hu], ru⟩
    · cases hr
  · rename_i t x k ok
    obtain ⟨u, hu, ru⟩ := r_lookup rh r hr
    exact ⟨u, by simp [execOp, hu], ru⟩
  · rename_i it
    obtain ⟨u, hu, ru⟩ := r_entry (P := P) rh r hr
    exact ⟨u, by simp [execOp, hu], ru⟩
  · rename_i src dst' x
    obtain ⟨u, hu, ru⟩ := r_convert rh r hr
    exact ⟨u, by simp [execOp, hu], ru⟩
  · rename_i c
    unfold rCall at hr
    split at hr
    · rename_i hb
      unfold rLen at hr
      split at hr
      · rename_i t x ht hx
        have ht' : c.argTypes[0]? = some t := by simpa using ht
        have hx' : c.args[0]? = some x := by simpa using hx
        have hax : (c.args.map a.eval)[0]? = some (a.eval x) := by simp [hx']
        have fin : ∀ u, (Builtin.len_ #[t] ty #[a.eval x]).run P w = .ok u w → (execOp a.eval ⟨dst, .call c, ty, pos, after, gd⟩).run P w = .ok (.value u) w := by
          intro u hu
          have e : execOp a.eval ⟨dst, .call c, ty, pos, after, gd⟩ = (do let d ← resolve a.eval c ty; invoke d.target d.args) := rfl
          rw [e, run_builtin_len hb]
          simp only [builtin, Sem.run_bind, len_first ht' hax, hu, Result.andThen_ok, Sem.run_pure]
        unfold rLen1 at hr
        split at hr
        · rename_i id hv
          obtain ⟨u, hu, ru⟩ := len_map (ty := ty) rh hr (r.ev hv)
          exact ⟨u, fin u hu, ru⟩
        · rename_i p _ hv
          obtain ⟨u, hu, ru⟩ := len_sound (ty := ty) hr (r.ev hv) w
          exact ⟨u, fin u hu, ru⟩
        · cases hr
      · cases hr
    · cases hr
  · cases hr

end Go.Ai
