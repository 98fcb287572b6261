/- A part of an evaluator over an abstract heap and of the proof that it is sound for the model. CONDITIONS: those that each theorem names. -/
import Derived.Test.YtneoghpfbgjaiaaGreatDoorAiAct
namespace Go.Ai
open Go
variable {P : Program} {ρ : Map} {fr : Fr} {a : Act} {base key : Nat} {s : St} {w : World} {outs : List Out}

theorem AO.unit {S : Sem Unit} {w' : World} {s' : St} (hr : S.run P w = .ok () w') (hs : Stp ρ base (hget s.h) w ρ (hget s'.h) w') (hfc : s'.fc = s.fc) :
    AO P ρ base key s w ((do S; pure .skip : Sem Next).run P w) (.val .undef s') :=
  ⟨ρ, w', hs, fun _ _ => rfl, hfc, .inr ⟨by simp [hr], rfl⟩⟩
theorem AO.value {S : Sem Value} {w' : World} {s' : St} {v : AV} {u : Value} (hr : S.run P w = .ok u w') (hs : Stp ρ base (hget s.h) w ρ (hget s'.h) w') (hfc : s'.fc = s.fc) (ru : RV ρ v u) :
    AO P ρ base key s w ((do pure (.value (← S)) : Sem Next).run P w) (.val v s') :=
  ⟨ρ, w', hs, fun _ _ => rfl, hfc, .inl ⟨u, by simp [hr], ru⟩⟩
theorem Some1.one {run : Result Next} {o : Out} (h : AO P ρ base key s w run o) : Some1 P ρ base key s w run [o] := ⟨o, List.mem_singleton.2 rfl, h⟩

theorem upd_h (s : St) (k : Nat) (b : AB) : (s.upd k b).h = hset s.h k b ∧ (s.upd k b).fc = s.fc := by rw [St.upd_eq]; exact ⟨rfl, rfl⟩

/-- a block of a map -/
theorem RH.map {h : Heap} (r : RH ρ base (hget h) w) {id clock : Nat} {es : MEs} (hg : hget h id = some (.map es clock)) {e : Ent} (he : ρ id = some e) :
    ∃ ents : Array MapEntry, w.heap[e.b]? = some (.map ents clock) ∧ REs ρ es ents.toList := by
  obtain ⟨e', ob, h1, h2, h3, ents, h4, h5⟩ := r.blk id _ hg (by simp)
  rw [he] at h1; cases h1
  subst h4
  exact ⟨ents, h3, h5⟩
theorem Stp.map {h : Heap} (r : RH ρ base (hget h) w) {id clock clock' : Nat} {es es' : MEs} (hg : hget h id = some (.map es clock)) {e : Ent} (he : ρ id = some e) {ents' : Array MapEntry} (re : REs ρ es' ents'.toList) :
    ∃ w', (setObj e.b (.map ents' clock')).run P w = .ok () w' ∧ Stp ρ base (hget h) w ρ (hget (hset h id (.map es' clock'))) w' := by
  obtain ⟨ents, hb, _⟩ := r.map hg he
  refine ⟨_, run_setObj hb (by simp), ?_⟩
  obtain ⟨h1, h2⟩ := setObj_heap (o' := .map ents' clock') hb
  exact Stp.upd r hg (by simp) he rfl rfl rfl (by simp) h1 h2 ⟨ents', rfl, re⟩

theorem modify_list {ents : Array MapEntry} {i : Nat} {x : MapEntry} {f : MapEntry → MapEntry} (h : ents.toList[i]? = some x) : (ents.modify i f).toList = ents.toList.set i (f x) := by
  apply List.ext_getElem?
  intro j
  have h' : ents[i]? = some x := by simpa using h
  obtain ⟨hlt, hx⟩ := Array.getElem?_eq_some_iff.1 h'
  rw [Array.getElem?_toList, Array.getElem?_modify, List.getElem?_set]
  by_cases hj : i = j
  · subst hj; simp [hlt, hx]
  · simp [hj]

theorem setK_spec {t : TypeId} {k v : AV} {es es' : MEs} {clock clock' : Nat} (h : setK P t k v es clock = some (es', clock')) :
    keyOk P t k = true ∧ ((findK P t k es 0 = some none ∧ es' = es ++ [(k, v, clock)] ∧ clock' = clock + 1) ∨
      ∃ i v0 b, findK P t k es 0 = some (some (i, k, v0, b)) ∧ isKey k = true ∧ es' = setAt es i (k, v, b) ∧ clock' = clock) := by
  unfold setK at h
  split at h
  · rename_i hk
    refine ⟨hk, ?_⟩
    unfold setK2 at h
    split at h
    · rename_i hf
      simp only [listC_eq, natC_eq, Option.some.injEq, Prod.mk.injEq] at h
      exact .inl ⟨hf, h.1.symm, h.2.symm⟩
    · rename_i i k' v0 b hf
      split at h
      · rename_i e1 e2
        simp only [listC_eq, Option.some.injEq, Prod.mk.injEq] at h
        have := avEq_eq e1
        subst this
        exact .inr ⟨i, v0, b, hf, e2, h.1.symm, h.2.symm⟩
      · cases h
    · cases h
  · cases h

theorem a_mapUpdate {t : TypeId} {m k v : Operand} (rh : RH ρ base (hget s.h) w) (r : RF ρ fr a) (h : aMU P s (P.underlying t) (fr.ev m) (fr.ev k) (fr.ev v) = some outs) {dst : Option Tmp} {ty : TypeId} {pos : String} {after : Array Edge} {gd : Option (Nat × Bool)} :
    Some1 P ρ base key s w ((execOp a.eval ⟨dst, .mapUpdate t m k v, ty, pos, after, gd⟩).run P w) outs := by
  unfold aMU at h
  split at h
  · rename_i kt et id kk vv hd hm hk hv
    unfold aMU2 at h
    split at h
    · rename_i es clock hg
      unfold aMU3 at h
      split at h
      · rename_i es' c' hs
        cases h
        obtain ⟨e, he, hx⟩ := r.ev hm
        obtain ⟨ents, hb, re⟩ := rh.map hg he
        obtain ⟨hko, hc⟩ := setK_spec hs
        obtain ⟨dk, hdk⟩ := keyOk_und hko
        have rk := r.ev hk
        have rv := r.ev hv
        obtain ⟨u1, u2⟩ := upd_h s id (.map es' c')
        rcases hc with ⟨hf, rfl, rfl⟩ | ⟨i, v0, b, hf, hik, rfl, rfl⟩
        · obtain ⟨o', f1, f2⟩ := findKey_sound hdk rk w hf re
          simp only [Found] at f2; subst f2
          obtain ⟨w', hr, hst⟩ := Stp.map (P := P) rh hg he (clock' := clock + 1) (es' := es ++ [(kk, vv, clock)]) (ents' := ents.push ⟨a.eval k, a.eval v, clock⟩) (by rw [Array.toList_push]; exact RE_snoc re rk rv)
          refine .one (AO.unit (w' := w') ?_ (by rw [u1]; exact hst) u2)
          simp only [Instr.mapUpdate, Sem.run_bind, run_und hd, Result.andThen_ok, hx, run_getObj hb (by simp), check_sound hko rk, f1, hr]
        · obtain ⟨o', f1, k'', v'', rfl, rk'', rv'', _, hl⟩ := findKey_sound hdk rk w hf re
          obtain ⟨hkk, hsame⟩ := key_same hik rk rk''
          have hl' : ents.toList[i]? = some ⟨k'', v'', b⟩ := by simpa using hl
          have hl'' : ents[i]? = some ⟨k'', v'', b⟩ := by simpa using hl'
          obtain ⟨w', hr, hst⟩ := Stp.map (P := P) rh hg he (clock' := c') (es' := setAt es i (kk, vv, b)) (ents' := ents.modify i fun e => { e with key := a.eval k, val := a.eval v }) (by rw [modify_list hl']; exact RE_set re rk rv)
          refine .one (AO.unit (w' := w') ?_ (by rw [u1]; exact hst) u2)
          have hsb : Instr.sameBits 10000 k'' (a.eval k) = true := by rw [← hkk]; exact hsame 9999
          simp only [Instr.mapUpdate, Sem.run_bind, run_und hd, Result.andThen_ok, hx, run_getObj hb (by simp), check_sound hko rk, f1, hl'', Option.map_some, Option.getD_some, Instr.keyThatStays, hsb, if_true, Sem.run_pure, hr]
      · cases h
    · cases h
  · cases h

theorem heap_same {b : Nat} {o : Obj} (h : w.heap[b]? = some o) : { w with heap := w.heap.setIfInBounds b o } = w := by
  have : w.heap.setIfInBounds b o = w.heap := by
    apply Array.ext_getElem?
    intro i
    rw [Array.getElem?_setIfInBounds]
    split
    · rename_i e; subst e; obtain ⟨this, h2⟩ := Array.getElem?_eq_some_iff.1 h; simp [this, h2]
    · rfl
  rw [this]

theorem a_mapEntry {t : TypeId} {m k : Operand} (rh : RH ρ base (hget s.h) w) (r : RF ρ fr a) (h : aME P s (P.underlying t) (fr.ev m) (fr.ev k) = some outs) {dst : Option Tmp} {ty : TypeId} {pos : String} {after : Array Edge} {gd : Option (Nat × Bool)} :
    Some1 P ρ base key s w ((execOp a.eval ⟨dst, .mapEntry t m k, ty, pos, after, gd⟩).run P w) outs := by
  unfold aME at h
  split at h
  · rename_i kt et id kk hd hm hk
    unfold aME2 at h
    split at h
    · rename_i es clock z hko hg hz
      obtain ⟨e, he, hx⟩ := r.ev hm
      obtain ⟨ents, hb, re⟩ := rh.map hg he
      obtain ⟨dk, hdk⟩ := keyOk_und hko
      obtain ⟨zu, hzu, rz, _⟩ := zero_rv (ρ := ρ) hz
      have rk := r.ev hk
      unfold aME3 at h
      split at h
      · rename_i i k' v' b hf
        split at h
        · rename_i e1 hik
          cases h
          have := avEq_eq e1; subst this
          obtain ⟨o', f1, k'', v'', rfl, rk'', rv'', _, hl⟩ := findKey_sound hdk rk w hf re
          obtain ⟨hkk, hsame⟩ := key_same hik rk rk''
          have hl' : ents.toList[i]? = some ⟨k'', v'', b⟩ := by simpa using hl
          have hl'' : ents[i]? = some ⟨k'', v'', b⟩ := by simpa using hl'
          have hsb : Instr.sameBits 10000 k'' (a.eval k) = true := by rw [← hkk]; exact hsame 9999
          have hmod : ents.modify i (fun e => { e with key := a.eval k }) = ents := by
            apply Array.toList_inj.1
            rw [modify_list hl', hkk]
            simp only
            apply List.ext_getElem?
            intro j
            rw [List.getElem?_set]
            split
            · rename_i ej; subst ej
              have := (List.getElem?_eq_some_iff.1 hl').1
              rw [if_pos this, hl']
            · rfl
          have hso : (setObj e.b (.map ents clock)).run P w = .ok () w := by rw [run_setObj hb (by simp), heap_same hb]
          refine .one (AO.value (u := .tuple #[v'', goInt b]) ?_ (Stp.same rh) rfl ⟨[v'', goInt b], ⟨_, _, rv'', ⟨_, _, rfl, rfl, rfl⟩, rfl⟩, rfl⟩)
          simp only [Instr.mapEntry, Sem.run_bind, run_und hd, Result.andThen_ok, hx, run_getObj hb (by simp), check_sound hko rk, f1, hl'', Option.map_some, Option.getD_some, Instr.keyThatStays, hsb, if_true, Sem.run_pure, hmod, hso]
        · cases h
      · rename_i hf
        unfold aME4 at h
        split at h
        · rename_i es' c' hs
          cases h
          obtain ⟨_, hc⟩ := setK_spec hs
          obtain ⟨u1, u2⟩ := upd_h s id (.map es' c')
          rcases hc with ⟨_, rfl, rfl⟩ | ⟨i, v0, b, hf2, _⟩
          · obtain ⟨o', f1, f2⟩ := findKey_sound hdk rk w hf re
            simp only [Found] at f2; subst f2
            obtain ⟨w', hr, hst⟩ := Stp.map (P := P) rh hg he (clock' := clock + 1) (es' := es ++ [(kk, z, clock)]) (ents' := ents.push ⟨a.eval k, zu, clock⟩) (by rw [Array.toList_push]; exact RE_snoc re rk rz)
            refine .one (AO.value (w' := w') (u := .tuple #[zu, goInt clock]) ?_ (by rw [u1]; exact hst) u2 ⟨[zu, goInt clock], ⟨_, _, rz, ⟨_, _, rfl, rfl, rfl⟩, rfl⟩, rfl⟩)
            simp only [Instr.mapEntry, Sem.run_bind, run_und hd, Result.andThen_ok, hx, run_getObj hb (by simp), check_sound hko rk, f1, hzu, hr, Sem.run_pure]
          · rw [hf] at hf2; cases hf2
        · cases h
      · cases h
    · cases h
  · cases h

theorem setStamp_spec {v : AV} {v' : Value} (rv : RV ρ v v') : ∀ {es es' : MEs} {stamp : Nat} {l : List MapEntry}, setStamp v stamp es = some es' → REs ρ es l →
    ∃ i x, l.findIdx? (fun e => (e.born : Int) == (stamp : Int)) = some i ∧ l[i]? = some x ∧ REs ρ es' (l.set i { x with val := v' })
  | [], es', stamp, l, h, r => by simp [setStamp] at h
  | (k, v1, b) :: es, es', stamp, _, h, ⟨k', v1', l', rk, rv1, rs, e⟩ => by
    subst e
    simp only [setStamp] at h
    split at h
    · rename_i hb
      cases h
      have : b = stamp := Nat.eq_of_beq_eq_true hb
      subst this
      exact ⟨0, _, by simp [List.findIdx?_cons], rfl, k', v', l', rk, rv, rs, rfl⟩
    · rename_i hb
      split at h
      · rename_i es2 h2
        cases h
        obtain ⟨i, x, h3, h4, h5⟩ := setStamp_spec rv h2 rs
        have hne : b ≠ stamp := by intro e; subst e; simp at hb
        refine ⟨i + 1, x, ?_, by simpa using h4, k', v1', _, rk, rv1, h5, rfl⟩
        rw [List.findIdx?_cons]
        have : ((b : Int) == (stamp : Int)) = false := by simp; omega
        simp only [this, Bool.false_eq_true, if_false, h3, Option.map_some]
      · cases h

theorem a_entryStore {t : TypeId} {m st v : Operand} (rh : RH ρ base (hget s.h) w) (r : RF ρ fr a) (h : aES s (fr.ev m) (fr.ev st) (fr.ev v) = some outs) {dst : Option Tmp} {ty : TypeId} {pos : String} {after : Array Edge} {gd : Option (Nat × Bool)} :
    Some1 P ρ base key s w ((execOp a.eval ⟨dst, .entryStore t m st v, ty, pos, after, gd⟩).run P w) outs := by
  unfold aES at h
  split at h
  · rename_i id sv vv hm hsv hv
    unfold aES2 at h
    split at h
    · rename_i stamp es clock hn hg
      unfold aES3 at h
      split at h
      · rename_i es' hs
        cases h
        obtain ⟨e, he, hx⟩ := r.ev hm
        obtain ⟨ents, hb, re⟩ := rh.map hg he
        obtain ⟨kn, hkn⟩ := natOf_spec hn (r.ev hsv)
        obtain ⟨i, x, h1, h2, h3⟩ := setStamp_spec (r.ev hv) hs re
        obtain ⟨u1, u2⟩ := upd_h s id (.map es' clock)
        obtain ⟨w', hr, hst⟩ := Stp.map (P := P) rh hg he (clock' := clock) (es' := es') (ents' := ents.modify i fun e => { e with val := a.eval v }) (by rw [modify_list h2]; exact h3)
        refine .one (AO.unit (w' := w') ?_ (by rw [u1]; exact hst) u2)
        have hfi : ents.findIdx? (fun e => (e.born : Int) == (stamp : Int)) = some i := by
          have := List.findIdx?_toArray (l := ents.toList) (p := fun e : MapEntry => (e.born : Int) == (stamp : Int))
          rw [Array.toArray_toList] at this
          rw [this]; exact h1
        simp only [Instr.entryStore, hx, Sem.run_bind, run_getObj hb (by simp), Result.andThen_ok, hkn, asInt, asIntOf, Sem.run_pure, hfi, hr]
      · cases h
    · cases h
  · cases h

theorem a_panic {x : Operand} (r : RF ρ fr a) (h : aPanic s (fr.ev x) = some outs) {dst : Option Tmp} {ty : TypeId} {pos : String} {after : Array Edge} {gd : Option (Nat × Bool)} :
    Some1 P ρ base key s w ((execOp a.eval ⟨dst, .panic x, ty, pos, after, gd⟩).run P w) outs := by
  unfold aPanic at h
  split at h
  · rename_i t v hx
    cases h
    have rx := r.ev hx
    obtain ⟨u, ru, hu⟩ := rx
    refine .one ⟨_, ?_, r.ev hx, rfl⟩
    simp only [execOp, hu, Instr.panic, Sem.run_bind]
    rfl
  · cases h
end Go.Ai
