/- A part of an evaluator over an abstract heap and of the proof that it is sound for the model. CONDITIONS: those that each theorem names. -/
import Derived.Recover
import Derived.Orders
import Derived.CallsIn
import Derived.Test.YtmnhaoadhkdinaaGreatDoorEngineA
namespace Go.Ai
open Go
variable {P : Program} {ρ : Map}

/-! ### keys -/
theorem check_plain {t : TypeId} {o : Option AV} (h : plainV P t o = true) (em : Bool) (n : Nat) (u : Value) (w : World) : (Instr.checkKey em (n + 1) t u).run P w = .ok () w := by
  unfold plainV at h
  split at h
  · rename_i hd; simp [Instr.checkKey, run_und hd]
  · rename_i hd; simp [Instr.checkKey, run_und hd]
  · rename_i hd; simp [Instr.checkKey, run_und hd]
  · cases h

theorem plain_part {t : TypeId} {cs : List AV} {off : Nat} (h : plainV P t (partA P t cs off) = true) : ∃ v, partA P t cs off = some v := by
  unfold plainV at h
  split at h
  · rename_i e; exact ⟨_, e⟩
  · rename_i e; exact ⟨_, e⟩
  · rename_i e; exact ⟨_, e⟩
  · cases h

theorem check_fields (em : Bool) (n : Nat) {cs : List AV} {vs : List Value} (r : RVs ρ cs vs) (w : World) : ∀ (fs : List Field), plainFs P cs fs = true →
    (forIn fs PUnit.unit (fun (f : Field) (_ : PUnit) => do
      if f.name ≠ "_" then do
        Instr.checkKey em (n + 1) f.type (← part f.type vs.toArray f.offset)
        pure (ForInStep.yield PUnit.unit)
      else pure (ForInStep.yield PUnit.unit)) : Sem PUnit).run P w = .ok PUnit.unit w
  | [], _ => rfl
  | f :: fs, h => by
    simp only [plainFs] at h
    split at h
    · rename_i hp
      obtain ⟨v, hv⟩ := plain_part hp
      obtain ⟨u, hu, _⟩ := part_rv hv r
      have ih := check_fields em n r w fs h
      simp only [List.forIn_cons, Sem.run_bind]
      split
      · simp only [Sem.run_bind, hu, Result.andThen_ok, check_plain hp, Sem.run_pure]
        exact ih
      · simp only [Sem.run_pure, Result.andThen_ok]
        exact ih
    · cases h

theorem check_sound' {t : TypeId} {k : AV} (h : keyOk P t k = true) {u : Value} (r : RV ρ k u) (em : Bool) (n : Nat) (w : World) : (Instr.checkKey em (n + 2) t u).run P w = .ok () w := by
  unfold keyOk keyD at h
  split at h
  · rename_i fs hd
    split at h
    · obtain ⟨vs, rs, e⟩ := r
      subst e
      rw [Instr.checkKey]
      simp only [Sem.run_bind, run_und hd, Result.andThen_ok]
      have := check_fields (P := P) em n rs w fs.toList h
      rw [← Array.forIn_toList]
      rw [this]
      rfl
    · cases h
  · exact check_plain h em (n + 1) u w
theorem check_sound {t : TypeId} {k : AV} (h : keyOk P t k = true) {u : Value} (r : RV ρ k u) (em : Bool) (w : World) : (Instr.checkKey em 10000 t u).run P w = .ok () w := check_sound' h r em 9998 w

/-! ### looking up -/
theorem REs.length {ρ : Map} : ∀ {es : MEs} {l : List MapEntry}, REs ρ es l → es.length = l.length
  | [], _, r => by simp only [REs] at r; subst r; rfl
  | (_, _, _) :: _, _, ⟨_, _, _, _, _, rs, e⟩ => by subst e; simp [REs.length rs]

theorem sameNow_sound {t : TypeId} {d : TypeDesc} (hd : P.underlying t = some d) {n : Nat} {a b : AV} {r : Bool} (h : eqIn P (n + 1) t a b = some r) {x y : Value} (rx : RV ρ a x) (ry : RV ρ b y) :
    Instr.sameNow d x y = some r ∨ Instr.sameNow d x y = none := by
  simp only [eqIn, hd] at h
  cases d with
  | bool =>
    split at h <;> simp_all
    all_goals (try (obtain ⟨rfl, rfl⟩ := h))
    all_goals (simp only [RV] at rx ry; subst rx ry; simp [Instr.sameNow])
  | int k0 =>
    split at h <;> simp_all
    simp only [RV] at rx ry; subst rx ry
    split at h
    · cases h; simp_all [Instr.sameNow]
    · cases h
  | string =>
    split at h <;> simp_all
    simp only [RV] at rx ry; subst rx ry; simp_all [Instr.sameNow, beq_bytes]
  | _ => right; rfl

/-- what a look-up finds, as the run has it -/
def Found (ρ : Map) (l : List MapEntry) (i0 : Nat) : Option (Nat × AV × AV × Nat) → Option (Nat × Value) → Prop
  | none, o => o = none
  | some (i, k', v, b), o => ∃ k'' v'', o = some (i, v'') ∧ RV ρ k' k'' ∧ RV ρ v v'' ∧ i0 ≤ i ∧ l[i - i0]? = some ⟨k'', v'', b⟩

theorem findAsking_sound {t : TypeId} {k : AV} {u : Value} (rk : RV ρ k u) (w : World) :
    ∀ {es : MEs} {l : List MapEntry} {i : Nat} {o : Option (Nat × AV × AV × Nat)}, findK P t k es i = some o → REs ρ es l →
      ∃ o', (Instr.findAsking t u l i).run P w = .ok o' w ∧ Found ρ l i o o'
  | [], l, i, o, h, r => by
    simp only [REs] at r; subst r
    simp only [findK, Option.some.injEq] at h; subst h
    exact ⟨none, rfl, rfl⟩
  | (k', v, b) :: es, _, i, o, h, ⟨k'', v'', l', rk', rv', rs, e⟩ => by
    subst e
    simp only [findK] at h
    split at h
    · rename_i hq
      cases h
      refine ⟨some (i, v''), ?_, k'', v'', rfl, rk', rv', Nat.le_refl _, by simp⟩
      simp only [Instr.findAsking, Sem.run_bind, equal_sound hq rk rk' w, Result.andThen_ok, if_true, Sem.run_pure]
    · rename_i hq
      obtain ⟨o', h1, h2⟩ := findAsking_sound rk w h rs
      refine ⟨o', ?_, ?_⟩
      · simp only [Instr.findAsking, Sem.run_bind, equal_sound hq rk rk' w, Result.andThen_ok, Bool.false_eq_true, if_false]
        exact h1
      · cases o with
        | none => exact h2
        | some q =>
          obtain ⟨j, q1, q2, q3⟩ := q
          obtain ⟨a1, a2, e1, r1, r2, h3, h4⟩ := h2
          refine ⟨a1, a2, e1, r1, r2, by omega, ?_⟩
          rw [show j - i = (j - (i + 1)) + 1 by simp only [Nat.succ_eq_add_one] at h3; omega]
          simpa using h4
    · cases h

theorem findNow_sound {t : TypeId} {d : TypeDesc} (hd : P.underlying t = some d) {k : AV} {u : Value} (rk : RV ρ k u) :
    ∀ {es : MEs} {l : List MapEntry} {i : Nat} {o : Option (Nat × AV × AV × Nat)}, findK P t k es i = some o → REs ρ es l →
      Instr.findNow d u l i = none ∨ ∃ o', Instr.findNow d u l i = some o' ∧ Found ρ l i o o'
  | [], l, i, o, h, r => by
    simp only [REs] at r; subst r
    simp only [findK, Option.some.injEq] at h; subst h
    exact .inr ⟨none, rfl, rfl⟩
  | (k', v, b) :: es, _, i, o, h, ⟨k'', v'', l', rk', rv', rs, e⟩ => by
    subst e
    simp only [findK] at h
    split at h
    · rename_i hq
      cases h
      rcases sameNow_sound hd hq rk rk' with hs | hs
      · exact .inr ⟨some (i, v''), by simp only [Instr.findNow, hs], k'', v'', rfl, rk', rv', Nat.le_refl _, by simp⟩
      · exact .inl (by simp only [Instr.findNow, hs])
    · rename_i hq
      rcases sameNow_sound hd hq rk rk' with hs | hs
      · rcases findNow_sound hd rk h rs with h1 | ⟨o', h1, h2⟩
        · exact .inl (by simp only [Instr.findNow, hs]; exact h1)
        · refine .inr ⟨o', by simp only [Instr.findNow, hs]; exact h1, ?_⟩
          cases o with
          | none => exact h2
          | some q =>
            obtain ⟨j, q1, q2, q3⟩ := q
            obtain ⟨a1, a2, e1, r1, r2, h3, h4⟩ := h2
            refine ⟨a1, a2, e1, r1, r2, by omega, ?_⟩
            rw [show j - i = (j - (i + 1)) + 1 by simp only [Nat.succ_eq_add_one] at h3; omega]
            simpa using h4
      · exact .inl (by simp only [Instr.findNow, hs])
    · cases h

theorem findKey_sound {t : TypeId} {d : TypeDesc} (hd : P.underlying t = some d) {k : AV} {u : Value} (rk : RV ρ k u) (w : World)
    {es : MEs} {l : List MapEntry} {o : Option (Nat × AV × AV × Nat)} (h : findK P t k es 0 = some o) (r : REs ρ es l) :
    ∃ o', (Instr.findKey t u l).run P w = .ok o' w ∧ Found ρ l 0 o o' := by
  unfold Instr.findKey
  simp only [Sem.run_bind, run_und hd, Result.andThen_ok]
  rcases findNow_sound hd rk h r with h1 | ⟨o', h1, h2⟩
  · rw [h1]
    exact findAsking_sound rk w h r
  · rw [h1]
    exact ⟨o', rfl, h2⟩

theorem keyOk_und {t : TypeId} {k : AV} (h : keyOk P t k = true) : ∃ d, P.underlying t = some d := by
  cases hd : P.underlying t with
  | some d => exact ⟨d, rfl⟩
  | none => simp [keyOk, keyD, hd, plainV] at h

def MapAt (w : World) (ents : Array MapEntry) : Value → Prop
  | .map none => ents = #[]
  | .map (some b) => ∃ clock, w.heap[b]? = some (.map ents clock)
  | _ => False
/-- the entries behind a map's value -/
theorem mapOf_rv {base : Nat} {h : Heap} {w : World} (r : RH ρ base (hget h) w) {m : AV} {es : MEs} (hm : mapOf h m = some es) {x : Value} (rx : RV ρ m x) :
    ∃ ents : Array MapEntry, REs ρ es ents.toList ∧ MapAt w ents x := by
  unfold mapOf at hm
  split at hm
  · cases hm
    simp only [RV] at rx; subst rx
    exact ⟨#[], rfl, rfl⟩
  · rename_i id
    obtain ⟨e, he, hx⟩ := rx
    subst hx
    split at hm
    · rename_i es' clock hg
      cases hm
      obtain ⟨e', ob, h1, h2, h3, ents, h4, h5⟩ := r.blk id _ hg (by simp)
      rw [he] at h1; cases h1
      subst h4
      exact ⟨ents, h5, clock, h3⟩
    · cases hm
  · cases hm

theorem run_getObj {w : World} {b : Nat} {o : Obj} (h : w.heap[b]? = some o) (hn : ∀ c t f, o ≠ .cells c t f) : (getObj b).run P w = .ok o w := by
  cases o <;> simp_all [getObj, Sem.run]

theorem okV_rv {ok : Bool} {v : AV} {b : Bool} {u : Value} (r : RV ρ v u) : RV ρ (okV ok v b) (if ok then .tuple #[u, .bool b] else u) := by
  cases ok
  · exact r
  · exact ⟨[u, .bool b], ⟨_, _, r, ⟨_, _, rfl, rfl, rfl⟩, rfl⟩, rfl⟩

section
variable {fr : Fr} {a : Act} {v : AV}
theorem r_lookup {base : Nat} {h : Heap} {w : World} (rh : RH ρ base (hget h) w) {t : TypeId} {x k : Operand} {ok : Bool} (r : RF ρ fr a)
    (hr : rLk P h ok (P.underlying t) (fr.ev x) (fr.ev k) = some v) : ∃ u, (Instr.lookup t (a.eval x) (a.eval k) ok).run P w = .ok u w ∧ RV ρ v u := by
  unfold rLk at hr
  split at hr
  · rename_i kt et m kk hd hx hk
    have rm := r.ev hx
    have rk := r.ev hk
    unfold rLk1 at hr
    split at hr
    · rename_i es hes
      split at hr
      · rename_i z hko hz
        obtain ⟨zu, hzu, rz, _⟩ := zero_rv (ρ := ρ) hz
        obtain ⟨ents, re, hent⟩ := mapOf_rv rh hes rm
        obtain ⟨dk, hdk⟩ := keyOk_und hko
        have fin : ∀ o, findK P kt kk es 0 = some o → rLk2 ok z (some o) = some v → ∃ u,
            ((do let (v, okk) ← match ← Instr.findKey kt (a.eval k) ents.toList with
                    | some (_, v) => pure (v, true)
                    | none => pure (← zeroValue et, false)
                 pure (if ok then .tuple #[v, .bool okk] else v)) : Sem Value).run P w = .ok u w ∧ RV ρ v u := by
          intro o ho hv
          obtain ⟨o', h1, h2⟩ := findKey_sound hdk rk w ho re
          cases o with
          | none =>
            simp only [Found] at h2; subst h2
            simp only [rLk2, Option.some.injEq] at hv; subst hv
            refine ⟨_, ?_, okV_rv (ok := ok) (b := false) rz⟩
            simp only [Sem.run_bind, h1, Result.andThen_ok, hzu, Sem.run_pure]
          | some q =>
            obtain ⟨i, k', v', b⟩ := q
            obtain ⟨k'', v'', e1, _, rv', _, _⟩ := h2
            subst e1
            simp only [rLk2, Option.some.injEq] at hv; subst hv
            refine ⟨_, ?_, okV_rv (ok := ok) (b := true) rv'⟩
            simp only [Sem.run_bind, h1, Result.andThen_ok, Sem.run_pure]
        cases ho : findK P kt kk es 0 with
        | none => rw [ho] at hr; cases hr
        | some o =>
          rw [ho] at hr
          obtain ⟨u, hu, ru⟩ := fin o ho hr
          refine ⟨u, ?_, ru⟩
          rw [← hu]
          generalize a.eval x = ax at hent ⊢
          cases ax with
          | map q =>
            cases q with
            | none =>
              have hent' : ents = #[] := hent
              subst hent'
              simp only [Instr.lookup, Sem.run_bind, run_und hd, Result.andThen_ok, Sem.run_pure, check_sound hko rk]
              rfl
            | some b =>
              obtain ⟨clock, hb⟩ := hent
              simp only [Instr.lookup, Sem.run_bind, run_und hd, Result.andThen_ok, run_getObj hb (by simp), Sem.run_pure, check_sound hko rk]
              rfl
          | _ => exact hent.elim
      · cases hr
    · cases hr
  · cases hr
end
end Go.Ai

namespace Go.Ai
open Go
variable {P : Program} {ρ : Map} {fr : Fr} {a : Act} {v : AV} {base : Nat} {h : Heap} {w : World}

theorem find_res {ρ : Map} : ∀ {es : MEs} {l : List MapEntry} {st : Nat} {e : AV × AV × Nat}, es.find? (fun e => Nat.beq e.2.2 st) = some e → REs ρ es l →
    ∃ k' v', l.find? (fun e => e.born == st) = some ⟨k', v', e.2.2⟩ ∧ RV ρ e.1 k' ∧ RV ρ e.2.1 v'
  | [], _, st, e, h, r => by simp at h
  | (k, v, b) :: es, _, st, e, h, ⟨k', v', l', rk, rv, rs, e1⟩ => by
    subst e1
    simp only [List.find?_cons] at h
    cases hb : Nat.beq b st with
    | true =>
      simp only [hb] at h
      cases h
      have : b = st := Nat.eq_of_beq_eq_true hb
      exact ⟨k', v', by simp [this], rk, rv⟩
    | false =>
      simp only [hb] at h
      obtain ⟨k2, v2, h1, h2, h3⟩ := find_res h rs
      have : b ≠ st := by intro e; subst e; simp at hb
      refine ⟨k2, v2, ?_, h2, h3⟩
      rw [List.find?_cons]
      have hbe : (b == st) = false := by simpa using this
      simp only [hbe]
      exact h1

theorem r_entry (rh : RH ρ base (hget h) w) {it : Operand} (r : RF ρ fr a) (hr : rEn h (fr.ev it) = some v) : ∃ u, (Instr.entry (a.eval it)).run P w = .ok u w ∧ RV ρ v u := by
  unfold rEn at hr
  split at hr
  · rename_i id hv
    obtain ⟨e, he, hx⟩ := r.ev hv
    unfold rEn1 at hr
    split at hr
    · rename_i m since seen stepped hg
      obtain ⟨e1, ob, h1, h2, h3, m', h0, h4, e2, he2, hm'⟩ := rh.blk id _ hg (by simp)
      rw [he] at h1; cases h1
      subst h4 hm'
      unfold rEn2 at hr
      split at hr
      · rename_i es clock hg2
        obtain ⟨e3, ob3, k1, k2, k3, ents, k4, k5⟩ := rh.blk m _ hg2 (by simp)
        rw [he2] at k1; cases k1
        subst k4
        split at hr
        · rename_i st hb hs
          unfold rEn3 at hr
          split at hr
          · rename_i en hen
            cases hr
            obtain ⟨k', v', f1, f2, f3⟩ := find_res hen k5
            have hcl : clock = stepped := Nat.eq_of_beq_eq_true hb
            subst hcl
            refine ⟨.tuple #[k', v'], ?_, ⟨[k', v'], ⟨_, _, f2, ⟨_, _, f3, rfl, rfl⟩, rfl⟩, rfl⟩⟩
            have hx' : a.eval it = .pointer (some ⟨e.b, 0, none⟩) := by rw [hx, h0]
            have hback : seen.toArray.back? = some st := by rw [List.back?_toArray]; exact hs
            rw [hx']
            simp only [Instr.entry, Sem.run_bind, run_getObj h3 (by simp), Result.andThen_ok, hback, run_getObj k3 (by simp), bne_self_eq_false, Bool.false_eq_true, if_false]
            have hf : ents.find? (fun x => x.born == st) = some ⟨k', v', en.2.2⟩ := by rw [← Array.find?_toList]; exact f1
            simp only [Sem.run_pure, hf]
          · cases hr
        · cases hr
      · cases hr
    · cases hr
  · cases hr

theorem bytes_rv {ρ : Map} : ∀ {cs : List AV} {vs : List Value} {l : List UInt8}, bytesOfA cs = some l → RVs ρ cs vs → vs = (l.map (fun b => (b.toNat : Int))).map (.int .u8)
  | [], vs, l, h, r => by simp only [bytesOfA, Option.some.injEq] at h; subst h; simpa [RVs] using r
  | c :: cs, _, l, h, ⟨v, vs, rc, rs, e⟩ => by
    subst e
    unfold bytesOfA at h
    split at h
    · cases ‹_ :: _ = []›
    · rename_i n r heq
      cases heq
      split at h
      · rename_i l' hb hl'
        cases h
        have ih := bytes_rv hl' rs
        have hn : n < 256 := by simpa using hb
        simp only [RV] at rc
        subst rc
        rw [ih]
        have : (UInt8.ofNat n).toNat = n := by simp [UInt8.toNat_ofNat']; omega
        simp [this]
      · cases h
    · cases h

theorem foldl_bytes : ∀ (l : List UInt8) (s : ByteArray), (l.map (fun b => (b.toNat : Int))).foldl (fun r n => r.push (UInt8.ofNat n.toNat)) s = ⟨(s.data.toList ++ l).toArray⟩
  | [], s => by simp
  | b :: l, s => by
    simp only [List.map_cons, List.foldl_cons]
    rw [foldl_bytes l]
    simp [ByteArray.push]

theorem conv_sound {src dst : TypeId} {p : AV} (h : convA P src dst p = some v) {x : Value} (r : RV ρ p x) (w : World) : ∃ u, (convert src dst x).run P w = .ok u w ∧ RV ρ v u := by
  unfold convA at h
  split at h
  · rename_i d k k' n hs hd
    cases h
    simp only [RV] at r; subst r
    refine ⟨.int k (k.wrap n), ?_, rfl⟩
    simp [convert, run_und hs, run_und hd, Conv.intToInt]
  · rename_i d k n hs hd
    cases h
    simp only [RV] at r; subst r
    refine ⟨.string (Utf8.encode n), ?_, ?_⟩
    · simp [convert, run_und hs, run_und hd, Conv.intToString]
    · simp [RV]
  · rename_i d s hs hd
    cases h
    have r' := r
    simp only [RV] at r; subst r
    refine ⟨_, ?_, r'⟩
    simp [convert, run_und hs, run_und hd]
  · cases h

theorem isBytes_spec {src dst : TypeId} (h : isBytes P src dst = true) : ∃ e, P.underlying src = some (.slice e) ∧ P.underlying e = some (.int .u8) ∧ P.underlying dst = some .string := by
  unfold isBytes at h
  split at h
  · rename_i e hs hd
    split at h
    · rename_i he; exact ⟨e, hs, he, hd⟩
    · cases h
  · cases h

theorem r_convert (rh : RH ρ base (hget h) w) {src dst : TypeId} {x : Operand} (r : RF ρ fr a) (hr : rCv P h src dst (fr.ev x) = some v) :
    ∃ u, (convert src dst (a.eval x)).run P w = .ok u w ∧ RV ρ v u := by
  unfold rCv at hr
  split at hr
  · rename_i id off eo len cap hv
    split at hr
    · rename_i hb
      obtain ⟨e, hs, he, hd⟩ := isBytes_spec hb
      unfold rCvB at hr
      split at hr
      · rename_i cs hcs
        unfold someStr at hr
        split at hr
        · rename_i bs hbs
          cases hr
          have rx := r.ev hv
          obtain ⟨ad, n, c', hx⟩ := rv_slice_some rx
          obtain ⟨en, hen, rx⟩ := rx
          obtain ⟨hl, vs, rs, hcell⟩ := readCells_rv rh hcs hen
          have hvs := bytes_rv hbs rs
          have hlen : vs.length = len := by rw [← RVs.length rs, hl]
          have hx2 : ∃ o' c2, a.eval x = .slice (some ⟨en.b, en.o + o', none⟩) len c2 ∧ (0 < len → o' = off) := by
            cases cap with
            | some c => obtain ⟨o', h1, h2, h3⟩ := rx; exact ⟨o', c, h3, fun hp => h2 (by omega)⟩
            | none => obtain ⟨o', h1, h2, h3⟩ := rx; exact ⟨o', _, h3, fun hp => h2 (by omega)⟩
          obtain ⟨o', c2, hx2, ho⟩ := hx2
          have hload : (loadCells ⟨en.b, en.o + o', none⟩ len).run P w = .ok vs.toArray w := by
            rw [← hlen]
            refine run_loadCells_list (P := P) w _ vs (fun j u hj => ?_)
            have : o' = off := ho (by rcases vs with _ | ⟨_, _⟩ <;> simp at hj hlen <;> omega)
            subst this
            exact hcell j u hj
          refine ⟨.string ⟨bs.toArray⟩, ?_, rfl⟩
          rw [hx2, run_convert_bytes_string w src dst e _ len c2 hs he hd, run_bytesToString w _ len c2 (bs.map fun b => (b.toNat : Int)) (by rw [hload, hvs]), foldl_bytes]
          simp
        · cases hr
      · cases hr
    · cases hr
  · rename_i hv
    split at hr
    · rename_i hb
      cases hr
      obtain ⟨e, hs, he, hd⟩ := isBytes_spec hb
      have rx := r.ev hv
      simp only [RV] at rx
      refine ⟨.string .empty, ?_, ?_⟩
      · rw [rx, run_convert_bytes_string w src dst e _ 0 0 hs he hd]; rfl
      · simp only [RV]; rfl
    · cases hr
  · rename_i hv
    split at hr
    · rename_i hb
      cases hr
      obtain ⟨e, hs, he, hd⟩ := isBytes_spec hb
      have rx := r.ev hv
      obtain ⟨ad, rx⟩ := rx
      refine ⟨.string .empty, ?_, ?_⟩
      · rw [rx, run_convert_bytes_string w src dst e _ 0 0 hs he hd]; rfl
      · simp only [RV]; rfl
    · cases hr
  · rename_i p _ _ _ hv
    exact conv_sound hr (r.ev hv) w
  · cases hr

theorem len_sound {t ty : TypeId} {p : AV} (h : lenA P t p = some v) {x : Value} (r : RV ρ p x) (w : World) : ∃ u, (Builtin.len_ #[t] ty #[x]).run P w = .ok u w ∧ RV ρ v u := by
  unfold lenA at h
  split at h
  · rename_i s hd
    cases h
    simp only [RV] at r; subst r
    refine ⟨.int .i64 s.length, ?_, rfl⟩
    have hsz : (ByteArray.mk s.toArray).size = s.length := by simp [ByteArray.size]
    simp [Builtin.len_, run_und hd, goInt, hsz]
  · rename_i n e hd
    cases h
    refine ⟨.int .i64 n, ?_, rfl⟩
    simp [Builtin.len_, run_und hd, goInt]
  · rename_i e hd
    cases h
    simp only [RV] at r; subst r
    refine ⟨.int .i64 0, ?_, rfl⟩
    simp [Builtin.len_, run_und hd, goInt]
  · rename_i e hd
    cases h
    obtain ⟨ad, r⟩ := r; subst r
    refine ⟨.int .i64 0, ?_, rfl⟩
    simp [Builtin.len_, run_und hd, goInt]
  · rename_i e id off eo n c hd
    cases h
    obtain ⟨en, hen, r⟩ := r
    refine ⟨.int .i64 n, ?_, rfl⟩
    cases c with
    | some c => obtain ⟨o', h1, h2, h3⟩ := r; subst h3; simp [Builtin.len_, run_und hd, goInt]
    | none => obtain ⟨o', h1, h2, h3⟩ := r; subst h3; simp [Builtin.len_, run_und hd, goInt]
  · rename_i k e hd
    cases h
    simp only [RV] at r; subst r
    refine ⟨.int .i64 0, ?_, rfl⟩
    simp [Builtin.len_, run_und hd, goInt]
  · rename_i ar hd
    split at h
    · rename_i n e he
      cases h
      refine ⟨.int .i64 n, ?_, rfl⟩
      simp [Builtin.len_, run_und hd, run_und he, goInt]
    · cases h
  · cases h

theorem cap_sound {t ty : TypeId} {p : AV} (h : capA (P.underlying t) p = some v) {x : Value} (r : RV ρ p x) (w : World) : ∃ u, (Builtin.cap_ #[t] ty #[x]).run P w = .ok u w ∧ RV ρ v u := by
  unfold capA at h
  split at h
  · rename_i e hd
    cases h
    simp only [RV] at r; subst r
    refine ⟨.int .i64 0, ?_, rfl⟩
    simp [Builtin.cap_, run_und hd, goInt]
  · rename_i e hd
    cases h
    obtain ⟨ad, r⟩ := r; subst r
    refine ⟨.int .i64 0, ?_, rfl⟩
    simp [Builtin.cap_, run_und hd, goInt]
  · rename_i e id off eo n c hd
    cases h
    obtain ⟨en, hen, r⟩ := r
    obtain ⟨o', h1, h2, h3⟩ := r
    subst h3
    refine ⟨.int .i64 c, ?_, rfl⟩
    simp [Builtin.cap_, run_und hd, goInt]
  · cases h
theorem cap_first {ats : Array TypeId} {ty t : TypeId} {args : Array Value} {x : Value} (h1 : ats[0]? = some t) (h2 : args[0]? = some x) : Builtin.cap_ ats ty args = Builtin.cap_ #[t] ty #[x] := by
  unfold Builtin.cap_
  rw [h1, h2]
  rfl

theorem len_first {ats : Array TypeId} {ty t : TypeId} {args : Array Value} {x : Value} (h1 : ats[0]? = some t) (h2 : args[0]? = some x) : Builtin.len_ ats ty args = Builtin.len_ #[t] ty #[x] := by
  unfold Builtin.len_
  rw [h1, h2]
  rfl

theorem len_map {t ty : TypeId} {id : Nat} {p : AV} (rh : RH ρ base (hget h) w) (hv : rLenM (P.underlying t) (hget h id) = some p) {x : Value} (r : RV ρ (.map id) x) :
    ∃ u, (Builtin.len_ #[t] ty #[x]).run P w = .ok u w ∧ RV ρ p u := by
  unfold rLenM at hv
  split at hv
  · rename_i k e es clock hd hg
    cases hv
    obtain ⟨en, he, hx⟩ := r
    obtain ⟨e', ob, h1, h2, h3, ents, h4, h5⟩ := rh.blk id _ hg (by simp)
    rw [he] at h1; cases h1
    subst h4 hx
    refine ⟨.int .i64 es.length, ?_, rfl⟩
    have : es.length = ents.size := by simpa using REs.length h5
    simp only [Builtin.len_, List.getElem?_toArray, List.getElem?_cons_zero, Sem.run_bind, run_und hd, Result.andThen_ok, run_getObj h3 (by simp), goInt, this, Sem.run_pure]
  · cases hv

theorem run_builtin_len {c : Call} {b : Builtin} (hb : c.callee = .builtin b) (ev : Operand → Value) (ty : TypeId) :
    (do let d ← resolve ev c ty; invoke d.target d.args : Sem Next) = builtin b c.argTypes ty (c.args.map fun | .const _ => true | _ => false) (c.args.map ev) := by
  simp only [resolve, hb]
  rfl

theorem r_slice {t : TypeId} {x : Operand} {lo hi mx : Option Operand} (rh : RH ρ base (hget h) w) (r : RF ρ fr a) (hr : rSl P h t (fr.ev x) (evO fr lo) (evO fr hi) (evO fr mx) (pSlice P t (fr.ev x) (evO fr lo) (evO fr hi) (evO fr mx)) = some v) :
    ∃ u, (do pure (.value (← Instr.sliceAt t (a.eval x) (lo.map a.eval) (hi.map a.eval) (mx.map a.eval))) : Sem Next).run P w = .ok (.value u) w ∧ RV ρ v u := by
  cases hp : pSlice P t (fr.ev x) (evO fr lo) (evO fr hi) (evO fr mx) with
  | some v' =>
    rw [hp] at hr
    cases hr
    obtain ⟨u, hu, ru⟩ := s_slice r hp
    exact ⟨u, hu w, ru⟩
  | none =>
    rw [hp] at hr
    simp only [rSl] at hr
    unfold rSl2 at hr
    split at hr
    · rename_i u0 l0 h0 hv hl hh hm
      have rx := r.ev hv
      have r1 := evO_rov r hl
      have r2 := evO_rov r hh
      have r3 := evO_rov r hm
      unfold sliceW at hr
      split at hr
      · rename_i e id off eo len hd
        obtain ⟨en, hen, o', hle, ho', hx⟩ := rx
        unfold sliceW2 at hr
        split at hr
        · rename_i es cs n es' tg hes hg
          split at hr
          · rename_i hb
            simp only [Bool.and_eq_true, Nat.blt_eq, Nat.ble_eq] at hb
            obtain ⟨⟨b1, b2⟩, b3⟩ := hb
            have b1 := Nat.eq_of_beq_eq_true b1
            subst b1
            obtain ⟨e', ob, k1, k2, k3, c, ty, lo', hi', k4, _, k5, k6, k7, k8, k9⟩ := rh.blk id _ hg (by simp)
            rw [hen] at k1; cases k1
            have hk : n / es ≤ en.k := Nat.div_le_of_le_mul (by rw [Nat.mul_comm]; exact k7 b2)
            unfold sliceOpen at hr
            split at hr
            · rename_i es2 l h1 hes2 hbd
              cases hes2
              cases hr
              have b3' : len ≤ n / es - eo := b3
              obtain ⟨hrr, h1', h2, h3, h4, _, h5⟩ := bounds_sound (P := P) (cap := en.k - eo) hbd (by show n / es - eo ≤ en.k - eo; omega) b3' r1 r2 r3 true
              simp only [Option.getD_none] at hrr h2
              refine ⟨.slice (some ⟨en.b, slOff (en.o + o') l es (en.k - eo), none⟩) (h1 - l) (en.k - eo - l), ?_, ?_⟩
              · simp only [Sem.run_bind, hx, run_sl hd hes (hrr w), Result.andThen_ok, Sem.run_pure, slAddr]
              · refine ⟨en, hen, slOff o' l es (en.k - eo), by show eo + l + (h1 - l) ≤ en.k; omega, fun hp => ?_, ?_⟩
                · have hp' : eo + l < en.k := hp
                  rw [slOff, if_neg (by omega), ho' (by omega)]; rfl
                · have e1 : en.k - eo - l = en.k - (eo + l) := by omega
                  show Value.slice _ (h1 - l) (en.k - eo - l) = Value.slice _ (h1 - l) (en.k - (eo + l))
                  rw [e1]
                  congr 3; unfold slOff; split <;> omega
            · rename_i es2 l h1 m hes2 hbd
              exfalso
              unfold boundsA at hbd
              simp only at hbd
              split at hbd
              · split at hbd <;> cases hbd
              · cases hbd
            · cases hr
          · cases hr
        · cases hr
      · cases hr
    · cases hr

/-- THE OPERATIONS THAT LOOK INTO MEMORY. -/
theorem read_sound {G : Glob} (rh : RH ρ base (hget h) w) (rg : RG G base w) {o : Oper} (r : RF ρ fr a) (hr : readOp P G fr h o.op = some v) :
    ∃ u, (execOp a.eval o).run P w = .ok (.value u) w ∧ RV ρ v u := by
  obtain ⟨dst, op, ty, pos, after, gd⟩ := o
  simp only at hr
  unfold readOp at hr
  split at hr
  · rename_i t x
    unfold rLd at hr
    split at hr
    · rename_i p hp
      obtain ⟨u, hu, ru, _⟩ := loadA_rv rh rg hr (r.ev hp)
      exact ⟨u, by simp [execOp, hu], ru⟩
    · cases hr
  · rename_i t x k ok
    obtain ⟨u, hu, ru⟩ := r_lookup rh r hr
    exact ⟨u, by simp [execOp, hu], ru⟩
  · rename_i it
    obtain ⟨u, hu, ru⟩ := r_entry (P := P) rh r hr
    exact ⟨u, by simp [execOp, hu], ru⟩
  · rename_i src dst' x
    obtain ⟨u, hu, ru⟩ := r_convert rh r hr
    exact ⟨u, by simp [execOp, hu], ru⟩
  · rename_i t x lo hi mx
    exact r_slice rh r hr
  · rename_i c
    unfold rCall at hr
    split at hr
    · rename_i hb
      unfold rLen at hr
      split at hr
      · rename_i t x ht hx
        have ht' : c.argTypes[0]? = some t := by simpa using ht
        have hx' : c.args[0]? = some x := by simpa using hx
        have hax : (c.args.map a.eval)[0]? = some (a.eval x) := by simp [hx']
        have fin : ∀ u, (Builtin.len_ #[t] ty #[a.eval x]).run P w = .ok u w → (execOp a.eval ⟨dst, .call c, ty, pos, after, gd⟩).run P w = .ok (.value u) w := by
          intro u hu
          have e : execOp a.eval ⟨dst, .call c, ty, pos, after, gd⟩ = (do let d ← resolve a.eval c ty; invoke d.target d.args) := rfl
          rw [e, run_builtin_len hb]
          simp only [builtin, Sem.run_bind, len_first ht' hax, hu, Result.andThen_ok, Sem.run_pure]
        unfold rLen1 at hr
        split at hr
        · rename_i id hv
          obtain ⟨u, hu, ru⟩ := len_map (ty := ty) rh hr (r.ev hv)
          exact ⟨u, fin u hu, ru⟩
        · rename_i p _ hv
          obtain ⟨u, hu, ru⟩ := len_sound (ty := ty) hr (r.ev hv) w
          exact ⟨u, fin u hu, ru⟩
        · cases hr
      · cases hr
    · rename_i hb
      unfold rCap at hr
      split at hr
      · rename_i t x ht hx
        have ht' : c.argTypes[0]? = some t := by simpa using ht
        have hx' : c.args[0]? = some x := by simpa using hx
        have hax : (c.args.map a.eval)[0]? = some (a.eval x) := by simp [hx']
        have fin : ∀ u, (Builtin.cap_ #[t] ty #[a.eval x]).run P w = .ok u w → (execOp a.eval ⟨dst, .call c, ty, pos, after, gd⟩).run P w = .ok (.value u) w := by
          intro u hu
          have e : execOp a.eval ⟨dst, .call c, ty, pos, after, gd⟩ = (do let d ← resolve a.eval c ty; invoke d.target d.args) := rfl
          rw [e, run_builtin_len hb]
          simp only [builtin, Sem.run_bind, cap_first ht' hax, hu, Result.andThen_ok, Sem.run_pure]
        split at hr
        · rename_i p hv
          obtain ⟨u, hu, ru⟩ := cap_sound (ty := ty) hr (r.ev hv) w
          exact ⟨u, fin u hu, ru⟩
        · cases hr
      · cases hr
    · cases hr
  · cases hr

end Go.Ai

namespace Go.Ai
open Go
variable {P : Program} {ρ : Map} {fr : Fr} {a : Act} {v : AV}

/-- one name more -/
def ext (ρ : Map) (k : Nat) (e : Ent) : Map := fun i => if i = k then some e else ρ i
theorem ext_mono {k : Nat} {e : Ent} (h : ρ k = none) : Mono ρ (ext ρ k e) := by
  intro i e' hi
  unfold ext
  split
  · rename_i hk; subst hk; rw [h] at hi; cases hi
  · exact hi
theorem ext_self (k : Nat) (e : Ent) : ext ρ k e k = some e := by simp [ext]

theorem rowT_eq (tg : Nat) (l : List AV) (es : Nat) : rowT tg l es = .row (T.setList .e 0 l) l.length es tg := by
  simp [rowT, T.setListC_eq, natC_eq]
theorem rowOf_T (l : List AV) (es : Nat) : rowOf l es = rowT 0 l es := by
  simp [rowOf, rowT, T.setListC_eq, natC_eq]
theorem rowOf_eq (l : List AV) (es : Nat) : rowOf l es = .row (T.setList .e 0 l) l.length es 0 := by rw [rowOf_T, rowT_eq]
theorem tagM_0 (b : Nat) : tagM 0 b = 0 := by unfold tagM; split <;> rfl
theorem tagM_l {a b u : Nat} (h : tagM a b = u + 1) : a = u + 1 := by
  unfold tagM at h
  split at h
  · exact h
  · cases h
theorem tagM_r {a b u : Nat} (h : tagM a b = u + 1) : b = u + 1 := by
  unfold tagM at h
  split at h
  · rename_i hb
    rw [← Nat.eq_of_beq_eq_true hb]; exact h
  · cases h
theorem tagA_ty {e u : TypeId} (h : tagA P e = u + 1) : e = u := by
  unfold tagA at h
  split at h
  · exact Nat.succ.inj h
  · cases h

/-- a new row -/
theorem rowT_rb {e : Ent} {l : List AV} {vs : List Value} {es tg : Nat} {ty : TypeId} {lo hi : Nat} {tail : List Value} (htg : ∀ u, tg = u + 1 → ty = u) (r : RVs ρ l vs) (ho : e.o = 0) (hk : e.k * es ≤ vs.length + tail.length) (hn : 0 < es → l.length ≤ e.k * es)
    (hf : vs.length + tail.length ≤ lo ∨ hi ≤ lo) (hz0 : es = 0 → tail = []) :
    RB ρ e (rowT tg l es) (.cells (vs ++ tail).toArray ty (lo, hi)) := by
  rw [rowT_eq]
  have hl := RVs.length r
  refine ⟨_, ty, lo, hi, rfl, fun u hu => ⟨htg u hu, fun h0 => ⟨ho, by rw [hz0 h0]; simp [hl]⟩⟩, by simp; omega, by simp; omega, hn, by simpa using hf, fun i hi av hav => ?_⟩
  rw [T.get_setList] at hav
  rw [if_pos (by omega)] at hav
  obtain ⟨y, hy, ry⟩ := RVs.get r i av (by simpa using hav)
  refine ⟨y, ?_, ry⟩
  have hlt : i < vs.length := by omega
  simp only [ho, Nat.zero_add, List.getElem?_toArray]
  rw [List.getElem?_append_left hlt]
  exact hy

theorem repl_rv {l : List AV} {vs : List Value} (r : RVs ρ l vs) : ∀ n, RVs ρ (repl l n) (repl vs n)
  | 0 => by simp [repl, RVs]
  | n + 1 => RVs.append r (repl_rv r n)
theorem repl_length {α : Type} (l : List α) : ∀ n, (repl l n).length = n * l.length
  | 0 => by simp [repl]
  | n + 1 => by simp [repl, repl_length l n, Nat.succ_mul, Nat.add_comm]
theorem range_repl (l : List Value) : ∀ (n : Nat), (List.range (n * l.length)).map (fun i => l[i % l.length]!) = repl l n
  | 0 => by simp [repl]
  | n + 1 => by
    rw [Nat.succ_mul, Nat.add_comm, List.range_add, List.map_append, List.map_map]
    have e1 : (List.range l.length).map (fun i => l[i % l.length]!) = l := by
      apply List.ext_getElem
      · simp
      · intro i h1 h2
        simp only [List.getElem_map, List.getElem_range]
        rw [Nat.mod_eq_of_lt h2]
        simp [h2]
    have e2 : (List.range (n * l.length)).map ((fun i => l[i % l.length]!) ∘ fun x => l.length + x) = repl l n := by
      rw [← range_repl l n]
      apply List.map_congr_left
      intro i _
      simp
    rw [e1, e2]
    rfl
theorem zero_fill (zu : Array Value) (n sz : Nat) (h : zu.size = sz) : (Array.range (n * sz)).map (fun i => zu[i % zu.size]!) = (repl zu.toList n).toArray := by
  apply Array.toList_inj.1
  rw [Array.toList_map, Array.toList_range]
  have := range_repl zu.toList n
  simp only [Array.length_toList] at this
  rw [← h]
  rw [← this]
  apply List.map_congr_left
  intro i _
  rw [getElem!_def, getElem!_def]
  simp

/-- What it means that an operation makes a new block. -/
def NB (P : Program) (ρ : Map) (key : Nat) (s : Sem Next) (v : AV) (b : AB) : Prop :=
  ∀ w : World, ∃ (ob : Obj) (k : Nat) (u : Value), s.run P w = .ok (.value u) (w.alloc ob) ∧ RV (ext ρ key ⟨w.heap.size, 0, k⟩) v u ∧ RB (ext ρ key ⟨w.heap.size, 0, k⟩) ⟨w.heap.size, 0, k⟩ b ob

theorem run_newRow {ty : TypeId} {cs : Array Value} (w : World) : (newRow ty cs).run P w = .ok ⟨w.heap.size, 0, none⟩ (w.alloc (.cells cs ty)) := by
  simp [newRow]

theorem tagS_ty {t u : TypeId} (h : tagS P t = u + 1) : t = u := by
  unfold tagS at h
  split at h
  · rename_i fs _
    unfold tagS1 at h
    split at h
    · split at h
      · split at h
        · exact Nat.succ.inj h
        · cases h
      · cases h
    · cases h
  · cases h
theorem nVar_nb {key tg : Nat} {t : TypeId} {z : AV} {u : Value} {b : AB} (htg : ∀ u, tg = u + 1 → t = u) (hk : ρ key = none) (h : nVar key tg (some z) = some (v, b)) (r : RV ρ z u) (s : Sem Value)
    (hs : ∀ w, s.run P w = .ok (.pointer (some ⟨w.heap.size, 0, none⟩)) (w.alloc (.cells u.cells t))) : NB P ρ key (do pure (.value (← s))) v b := by
  have e : v = .ptr key 0 ∧ b = rowT tg z.cells 0 := by
    cases tg with
    | zero =>
      simp only [nVar, Option.some.injEq, Prod.mk.injEq] at h
      exact ⟨h.1.symm, by rw [← h.2, rowOf_T]⟩
    | succ n =>
      simp only [nVar, Option.some.injEq, Prod.mk.injEq] at h
      exact ⟨h.1.symm, h.2.symm⟩
  obtain ⟨rfl, rfl⟩ := e
  intro w
  refine ⟨.cells u.cells t, 0, .pointer (some ⟨w.heap.size, 0, none⟩), by simp [hs], ⟨_, ext_self _ _, rfl⟩, ?_⟩
  have := rowT_rb (tg := tg) (ρ := ext ρ key ⟨w.heap.size, 0, 0⟩) (e := ⟨w.heap.size, 0, 0⟩) (es := 0) (ty := t) (lo := 0) (hi := 0) (tail := []) htg (RVs.mono (ext_mono hk) _ _ (cells_rv r)) rfl (by simp) (by omega) (by simp) (fun _ => rfl)
  simpa using this

theorem nVar_none {key tg : Nat} {x : AV × AB} (h : nVar key tg none = some x) : False := by cases tg <;> simp [nVar] at h

theorem rowOf_norom (l : List AV) (es : Nat) : NoRom (rowOf l es) := by rw [rowOf_eq]; simp
theorem rowT_norom (tg : Nat) (l : List AV) (es : Nat) : NoRom (rowT tg l es) := by rw [rowT_eq]; simp
theorem allocOp_norom {fr : Fr} {key : Nat} {op : Op} {v : AV} {b : AB} (h : allocOp P fr key op = some (v, b)) : NoRom b := by
  unfold allocOp at h
  split at h
  · rename_i t
    cases hz : zeroT P t with
    | none => rw [hz] at h; exact (nVar_none h).elim
    | some z =>
      rw [hz] at h
      cases ht : tagS P t with
      | zero => rw [ht] at h; cases h; exact rowOf_norom _ _
      | succ n => rw [ht] at h; cases h; exact rowT_norom _ _ _
  · rename_i t x
    cases hz : fr.ev x with
    | none => rw [hz] at h; cases h
    | some z => rw [hz] at h; cases h; exact rowOf_norom _ _
  · unfold nBS at h
    split at h
    · unfold nBS2 at h
      split at h
      · split at h
        · unfold nBS3 at h
          split at h
          · cases h; exact rowT_norom _ _ _
          · cases h
        · cases h
      · cases h
    · cases h
  · cases h; simp
  · unfold nMS at h
    split at h
    · unfold nMS1 at h
      split at h
      · unfold nMS2 at h
        split at h
        · split at h
          · cases h; exact rowT_norom _ _ _
          · cases h
        · cases h
      · cases h
    · cases h
  · cases h

/-- THE OPERATIONS THAT MAKE A BLOCK. -/
theorem alloc_sound {key : Nat} {o : Oper} {b : AB} (r : RF ρ fr a) (hk : ρ key = none) (h : allocOp P fr key o.op = some (v, b)) : NB P ρ key (execOp a.eval o) v b := by
  obtain ⟨dst, op, ty, pos, after, gd⟩ := o
  simp only at h
  unfold allocOp at h
  split at h
  · rename_i t
    cases hz : zeroT P t with
    | none => rw [hz] at h; exact (nVar_none h).elim
    | some z =>
      rw [hz] at h
      obtain ⟨zu, hzu, rz, _⟩ := zero_rv (ρ := ρ) hz
      exact nVar_nb (t := t) (fun _ hu => tagS_ty hu) hk h rz _ (fun w => by simp [Instr.alloc, hzu, newVar, run_newRow])
  · rename_i t x
    cases hx : fr.ev x with
    | none => rw [hx] at h; cases h
    | some z =>
      rw [hx] at h
      exact nVar_nb (t := t) (tg := 0) (fun _ hu => by cases hu) hk h (r.ev hx) _ (fun w => by simp [Instr.box, newVar, run_newRow])
  · rename_i t len parts
    unfold nBS at h
    split at h
    · rename_i e ps hd hps
      unfold nBS2 at h
      split at h
      · rename_i n z hn hz
        split at h
        · rename_i hb
          simp only [Bool.and_eq_true, Nat.ble_eq, Nat.blt_eq] at hb
          have hb2 := Nat.eq_of_beq_eq_true hb.2
          unfold nBS3 at h
          split at h
          · rename_i cs hcs
            cases h
            obtain ⟨zu, hzu, _, rz⟩ := zero_rv (ρ := ρ) hz
            have rp := evParts_rv r hps
            have hzs : zu.cells.size = n := by have := RVs.length rz; simp at this; omega
            have rr := repl_rv rz len
            obtain ⟨ov, ho, ro⟩ := fill_arr n (cv := (repl zu.cells.toList len).toArray) rp (by simpa using rr) hcs
            have hol : ov.length = len * n := by
              rw [← RVs.length ro]
              have : ∀ (ps : List (Nat × AV)) (cells out : List AV), buildArr n cells ps = some out → out.length = cells.length := by
                intro ps
                induction ps with
                | nil => intro cells out h; simp only [buildArr, Option.some.injEq] at h; rw [h]
                | cons p ps ih =>
                  intro cells out h
                  obtain ⟨i, q⟩ := p
                  simp only [buildArr] at h
                  split at h
                  · simp only [listC_eq] at h; rw [ih _ _ h, fillA_length]
                  · cases h
              rw [this _ _ _ hcs, repl_length, hb2]
            intro w
            refine ⟨.cells ov.toArray e, len, .slice (some ⟨w.heap.size, 0, none⟩) len len, ?_, ⟨_, ext_self _ _, 0, Nat.le_refl _, fun _ => rfl, rfl⟩, ?_⟩
            · have e1 : (parts.map fun (i, x) => (i, a.eval x)).toList = parts.toList.map fun (i, x) => (i, a.eval x) := by simp
              by_cases h0 : len * n = 0
              · have hov : Instr.fill (fun i => some (i * n, n)) #[] (parts.toList.map fun (i, x) => (i, a.eval x)) = some ov.toArray := by
                  rw [← ho]
                  have : (repl zu.cells.toList len).toArray = #[] := by
                    have := repl_length zu.cells.toList len
                    simp only [Array.length_toList, hzs, h0] at this
                    rw [List.length_eq_zero_iff.1 this]
                  rw [this]
                simp only [execOp, Instr.buildSlice, Sem.run_bind, run_und hd, Result.andThen_ok, run_sizeT hn, Sem.run_ite]
                rw [if_neg (by omega), if_pos h0]
                simp only [Sem.run_pure, Result.andThen_ok, h0, e1]
                have hr0 : Array.range 0 = #[] := rfl
                simp only [hr0, Array.map_empty, hov]
                simp [run_newRow]
              · simp only [execOp, Instr.buildSlice, Sem.run_bind, run_und hd, Result.andThen_ok, run_sizeT hn, Sem.run_ite]
                rw [if_neg (by omega), if_neg h0]
                simp only [Sem.run_bind, hzu, Sem.run_pure, Result.andThen_ok, e1, zero_fill zu.cells len n hzs, ho]
                simp [run_newRow]
            · have := rowT_rb (tg := tagA P e) (ρ := ext ρ key ⟨w.heap.size, 0, len⟩) (e := ⟨w.heap.size, 0, len⟩) (es := n) (ty := e) (lo := 0) (hi := 0) (tail := []) (fun _ h => tagA_ty h) (RVs.mono (ext_mono hk) _ _ ro) rfl (by simp [hol]) (fun _ => by rw [RVs.length ro, hol]; exact Nat.le_refl _) (by simp) (fun _ => rfl)
              simpa using this
          · cases h
        · cases h
      · cases h
    · cases h
  · cases h
    intro w
    refine ⟨.map #[] 0, 0, .map (some w.heap.size), by simp [execOp, Instr.makeMap], ⟨_, ext_self _ _, rfl⟩, #[], rfl, rfl⟩
  · rename_i t l c
    unfold nMS at h
    split at h
    · rename_i e lv cv hd hl hc
      unfold nMS1 at h
      split at h
      · rename_i ln cn hln hcn
        obtain ⟨kl, hkl⟩ := natOf_spec hln (r.ev hl)
        obtain ⟨kc, hkc⟩ := natOf_spec hcn (r.ev hc)
        unfold nMS2 at h
        split at h
        · rename_i n by' z hn hby hz
          split at h
          · rename_i hb
            simp only [Bool.and_eq_true, Nat.ble_eq, Nat.blt_eq] at hb
            obtain ⟨⟨⟨⟨b1, b2⟩, b3⟩, b4⟩, b5⟩ := hb
            have b4 := Nat.eq_of_beq_eq_true b4
            cases h
            obtain ⟨zu, hzu, _, rz⟩ := zero_rv (ρ := ρ) hz
            have hzs : zu.cells.size = n := by have := RVs.length rz; simp at this; omega
            have rr := repl_rv rz cn
            obtain ⟨inf, hinf, hbytes⟩ : ∃ i, P.info? e = some i ∧ i.bytes = by' := by
              unfold bytesT at hby
              cases hi : P.info? e with
              | none => rw [hi] at hby; cases hby
              | some i => rw [hi] at hby; simp at hby; exact ⟨i, rfl, hby⟩
            have w1 : IntKind.i64.wrap (ln : Int) = ln := IntWalk.i64_in _ (by omega)
            have w2 : IntKind.i64.wrap (cn : Int) = cn := IntWalk.i64_in _ (by omega)
            have hm : ((by' : Int) * (cn : Int)) ≤ ((1073741824 : Nat) : Int) := by rw [← Int.natCast_mul]; exact Int.ofNat_le.2 b2
            intro w
            refine ⟨.cells (repl zu.cells.toList cn).toArray e, cn, .slice (some ⟨w.heap.size, 0, none⟩) ln cn, ?_, ⟨_, ext_self _ _, 0, b1, fun _ => rfl, rfl⟩, ?_⟩
            · have hrow0 : cn * n = 0 → (Array.range (cn * n)).map (fun i => (#[] : Array Value)[i % (#[] : Array Value).size]!) = (repl zu.cells.toList cn).toArray := by
                intro h0
                have hr0 : Array.range 0 = #[] := rfl
                have := repl_length zu.cells.toList cn
                simp only [Array.length_toList, hzs, h0] at this
                rw [List.length_eq_zero_iff.1 this, h0, hr0, Array.map_empty]
              have hrow1 := zero_fill zu.cells cn n hzs
              simp only [execOp, Instr.makeSlice, Sem.run_bind, run_und hd, Result.andThen_ok, hkl, hkc, asInt, asIntOf, Sem.run_pure, run_typeInfo' hinf, hbytes, w1, w2]
              rw [if_neg]
              · by_cases h0 : cn * n = 0
                · simp only [Sem.run_bind, run_askRoom, Result.andThen_ok, run_sizeT hn, Int.toNat_natCast]
                  rw [if_pos h0]
                  simp only [Sem.run_bind, Sem.run_pure, Result.andThen_ok, hrow0 h0, run_newRow]
                · simp only [Sem.run_bind, run_askRoom, Result.andThen_ok, run_sizeT hn, Int.toNat_natCast]
                  rw [if_neg h0]
                  simp only [Sem.run_bind, hzu, Sem.run_pure, Result.andThen_ok, hrow1, run_newRow]
              · simp only [Bool.or_eq_true, decide_eq_true_eq]
                have : (2 : Int) ^ 48 = 281474976710656 := by decide
                omega
            · have := rowT_rb (tg := tagA P e) (ρ := ext ρ key ⟨w.heap.size, 0, cn⟩) (e := ⟨w.heap.size, 0, cn⟩) (es := n) (ty := e) (lo := 0) (hi := 0) (tail := []) (fun _ h => tagA_ty h) (RVs.mono (ext_mono hk) _ _ rr) rfl (by simp [repl_length, hzs]) (fun _ => by rw [repl_length, b4]; exact Nat.le_refl _) (by simp) (fun _ => rfl)
              simpa using this
          · cases h
        · cases h
      · cases h
    · cases h
  · cases h
end Go.Ai

namespace Go.Ai
open Go
variable {P : Program} {ρ : Map} {fr : Fr} {a : Act} {v : AV} {base : Nat}

theorem cell_one {v : AV} {u : Value} (h : isCell v = true) (r : RV ρ v u) : u.oneCell' = true := by
  cases v with
  | agg cs => simp [isCell] at h
  | tup cs => simp [isCell] at h
  | slice i o e l c => obtain ⟨_, _, _, e⟩ := rv_slice_some r; subst e; rfl
  | bool b => simp only [RV] at r; subst r; rfl
  | int k n => simp only [RV] at r; subst r; rfl
  | str s => simp only [RV] at r; subst r; rfl
  | nilp => simp only [RV] at r; subst r; rfl
  | gptr g o => simp only [RV] at r; subst r; rfl
  | nils => simp only [RV] at r; subst r; rfl
  | nilm => simp only [RV] at r; subst r; rfl
  | nilf => simp only [RV] at r; subst r; rfl
  | nili => simp only [RV] at r; subst r; rfl
  | ptr i o => obtain ⟨_, _, e⟩ := r; subst e; rfl
  | map i => obtain ⟨_, _, e⟩ := r; subst e; rfl
  | yl i => obtain ⟨_, _, e⟩ := r; subst e; rfl
  | fn f a c => obtain ⟨_, _, _, _, e⟩ := r; subst e; rfl
  | iface t x => obtain ⟨_, _, e⟩ := r; subst e; rfl
  | hole => obtain ⟨_, e⟩ := r; subst e; rfl
theorem cells_one : ∀ {vs : List AV} {us : List Value}, allCell vs = true → RVs ρ vs us → ∀ u ∈ us, u.oneCell' = true
  | [], us, _, r, u, hu => by simp only [RVs] at r; subst r; cases hu
  | v :: vs, _, h, ⟨x, xs, rx, rs, e⟩, u, hu => by
    subst e
    simp only [allCell] at h
    split at h
    · rename_i hc
      rcases List.mem_cons.1 hu with e | hm
      · subst e; exact cell_one hc rx
      · exact cells_one h rs u hm
    · cases h

theorem run_storeCells_fill (g o : Nat) (t : TypeId) (fz : Nat × Nat) : ∀ (vs : List Value) (i : Nat) (cur : Array Value) (w : World), w.heap[g]? = some (.cells cur t fz) → o + i + vs.length ≤ cur.size →
    (cur.size ≤ fz.1 ∨ fz.2 ≤ fz.1) → (∀ v ∈ vs, v.oneCell' = true) →
    (storeCells ⟨g, o, none⟩ vs i).run P w = .ok () (w.setRow g (fillA cur.toList (o + i) vs).toArray)
  | [], i, cur, w, hg, _, _, _ => by
    simp only [storeCells, fillA_nil, Array.toArray_toList]
    rw [setRow_self w g cur t fz hg]
    rfl
  | v :: rest, i, cur, w, hg, hl, hf, h1 => by
    have hi : o + i < cur.size := by simp at hl; omega
    have hadd : (⟨g, o, none⟩ : Addr).add i = ⟨g, o + i, none⟩ := add_none _ _ _
    have hcell : w.cell? ⟨g, o + i, none⟩ = some cur[o + i] := by simp [World.cell?, hg, hi]
    have hfro : w.frozen? ⟨g, o + i, none⟩ = false := by
      obtain ⟨lo, hi'⟩ := fz
      simp only at hf
      simp only [World.frozen?, hg]
      rcases hf with hf | hf
      · have : ¬ lo ≤ o + i := by omega
        simp [this]
      · by_cases h : lo ≤ o + i
        · have : ¬ o + i < hi' := by omega
          simp [this]
        · simp [h]
    have hst : (store ((⟨g, o, none⟩ : Addr).add i) v).run P w = .ok () (w.setRow g (cur.setIfInBounds (o + i) v)) := by
      rw [hadd, run_store P w _ v _ (h1 v (by simp)), hcell]
      simp [hfro, setCell_eq_setRow w g (o + i) cur t fz v hg]
    have ih := run_storeCells_fill g o t fz rest (i + 1) (cur.setIfInBounds (o + i) v) (w.setRow g (cur.setIfInBounds (o + i) v)) (setRow_heap w g cur _ t _ hg) (by simp at hl ⊢; omega) (by simpa using hf) (fun x hx => h1 x (by simp [hx]))
    simp only [storeCells, Sem.run_bind, hst, Result.andThen_ok, ih, setRow_setRow]
    congr 3
    rw [fillA_cons]
    simp [Nat.add_assoc]

theorem fillA_get {α : Type} : ∀ (vs cs : List α) (n i : Nat), n + vs.length ≤ cs.length → (fillA cs n vs)[i]? = if n ≤ i ∧ i < n + vs.length then vs[i - n]? else cs[i]?
  | [], cs, n, i, h => by rw [fillA_nil, if_neg (by simp only [List.length_nil]; omega)]
  | v :: vs, cs, n, i, h => by
    rw [fillA_cons, fillA_get vs (cs.set n v) (n + 1) i (by simp at h ⊢; omega)]
    simp only [List.length_cons] at h ⊢
    by_cases h1 : n + 1 ≤ i ∧ i < n + 1 + vs.length
    · rw [if_pos h1, if_pos (by omega), show i - n = (i - (n + 1)) + 1 by omega]
      simp
    · rw [if_neg h1]
      by_cases h2 : i = n
      · subst h2
        rw [if_pos (by omega)]
        simp [List.getElem?_set]; omega
      · rw [if_neg (by omega)]
        simp [Ne.symm h2]

/-- one block is another now -/
theorem RH.upd {g : GetF} {w w' : World} (r : RH ρ base g w) {id : Nat} {ab ab' : AB} {e : Ent} {ob' : Obj} (hg : g id = some ab) (hd : Mine ab) (hd' : NoRom ab') (he : ρ id = some e)
    (hb : w'.heap[e.b]? = some ob') (ho : ∀ b, b ≠ e.b → w'.heap[b]? = w.heap[b]?) (rb : RB ρ e ab' ob') : RH ρ base (fun i => if i = id then some ab' else g i) w' := by
  refine ⟨fun i x hi hx => ?_, fun i j e1 e2 li lj hi hj hbb => ?_⟩
  · split at hi
    · rename_i heq
      subst heq
      cases hi
      obtain ⟨e', _, h1, h2, _⟩ := r.blk i ab hg hd.nd
      rw [he] at h1; cases h1
      exact ⟨e, ob', he, .new (h2.mine hd) hd', hb, rb⟩
    · rename_i hne
      obtain ⟨e', ob, h1, h2, h3, h4⟩ := r.blk i x hi hx
      have hne' : e'.b ≠ e.b := fun h => by
        rcases h2.rom_or hx with m | m
        · exact hne (r.inj i id e' e ⟨x, hi, m⟩ ⟨ab, hg, hd⟩ h1 he h)
        · obtain ⟨e2, _, k1, k2, _⟩ := r.blk id ab hg hd.nd
          rw [he] at k1; cases k1
          have := k2.mine hd
          omega
      exact ⟨e', ob, h1, h2, by rw [ho _ hne']; exact h3, h4⟩
  · have live' : ∀ k, live (fun i => if i = id then some ab' else g i) k → live g k := by
      rintro k ⟨x, hx, hdx⟩
      simp only at hx
      split at hx
      · rename_i heq; subst heq; exact ⟨ab, hg, hd⟩
      · exact ⟨x, hx, hdx⟩
    exact r.inj i j e1 e2 (live' i li) (live' j lj) hi hj hbb

theorem hget_upd (h : Heap) (k : Nat) (b : AB) : hget (hset h k b) = fun i => if i = k then some b else hget h i := by
  funext i; exact hget_hset h k i b

theorem writeCells_eq {h h' : Heap} {id off : Nat} {vs : List AV} (hw : writeCells h id off vs = some h') : ∃ cs m es tg, hget h id = some (.row cs m es tg) ∧ off + vs.length ≤ m ∧ allCell vs = true ∧ h' = hset h id (.row (cs.setList off vs) m es tg) := by
  unfold writeCells at hw
  split at hw
  · rename_i cs m es tg hg
    split at hw
    · rename_i hb
      simp only [Bool.and_eq_true, Nat.ble_eq] at hb
      simp only [T.setListC_eq, hsetC_eq, Option.some.injEq] at hw
      exact ⟨cs, m, es, tg, hg, hb.1, hb.2, hw.symm⟩
    · cases hw
  · cases hw

theorem write_sound {h h' : Heap} {w : World} (r : RH ρ base (hget h) w) {id off : Nat} {vs : List AV} (hw : writeCells h id off vs = some h') {e : Ent} (he : ρ id = some e) {us : List Value} (ru : RVs ρ vs us) :
    ∃ w', (storeCells ⟨e.b, e.o + off, none⟩ us).run P w = .ok () w' ∧ RH ρ base (hget h') w' ∧ Keeps (fun b => b = e.b) w w' ∧ w'.heap.size = w.heap.size ∧ (∀ i, live (hget h') i ↔ live (hget h) i) := by
  obtain ⟨cs, m, es, tg, hg, hm, hc, rfl⟩ := writeCells_eq hw
  obtain ⟨e', ob, h1, h2, h3, c, ty, lo, hi, h4, ht, h5, h6, h7, h8, h9⟩ := r.blk id _ hg (by simp)
  rw [he] at h1; cases h1
  subst h4
  have hl := RVs.length ru
  have hrun := run_storeCells_fill (P := P) e.b (e.o + off) ty (lo, hi) us 0 c w h3 (by omega) h8 (cells_one hc ru)
  have hcs := setRow_heap w e.b c (fillA c.toList (e.o + off) us).toArray ty (lo, hi) h3
  refine ⟨_, hrun, ?_, ⟨rfl, rfl, rfl, by simp, fun b _ hb => setRow_other w e.b b _ hb⟩, by simp, fun i => ?_⟩
  · rw [hget_upd]
    refine r.upd hg (by simp) (by simp) he hcs (fun b hb => setRow_other w e.b b _ hb) ?_
    refine ⟨_, ty, lo, hi, rfl, fun u hu => ⟨(ht u hu).1, fun h0 => ⟨((ht u hu).2 h0).1, by simp [fillA_length]; exact ((ht u hu).2 h0).2⟩⟩, by simp [fillA_length]; omega, by simp [fillA_length]; omega, h7, by simpa [fillA_length] using h8, fun i hi' av hav => ?_⟩
    rw [T.get_setList] at hav
    simp only [List.getElem?_toArray]
    rw [fillA_get us c.toList (e.o + off) (e.o + i) (by simp; omega)]
    by_cases hin : off ≤ i ∧ i < off + vs.length
    · rw [if_pos hin] at hav
      rw [if_pos (by omega), show e.o + i - (e.o + off) = i - off by omega]
      exact RVs.get ru _ av hav
    · rw [if_neg hin] at hav
      rw [if_neg (by omega)]
      simpa using h9 i hi' av hav
  · simp only [live, hget_upd]
    constructor
    · rintro ⟨x, hx, hd⟩
      split at hx
      · rename_i heq; subst heq; exact ⟨_, hg, by simp⟩
      · exact ⟨x, hx, hd⟩
    · rintro ⟨x, hx, hd⟩
      by_cases heq : i = id
      · subst heq; exact ⟨.row (cs.setList off vs) m es tg, by rw [if_pos rfl], by simp⟩
      · exact ⟨x, by rw [if_neg heq]; exact hx, hd⟩
end Go.Ai

namespace Go.Ai
open Go
variable {P : Program} {ρ : Map} {fr : Fr} {a : Act} {base : Nat}

/-! ### keys that stay -/
theorem keyS_same {k : AV} (h : isKeyS k = true) {u u' : Value} (r : RV ρ k u) (r' : RV ρ k u') : u = u' ∧ ∀ n, Instr.sameBits n u u = true := by
  cases k with
  | bool b => simp only [RV] at r r'; subst r r'; exact ⟨rfl, fun n => by cases n <;> simp [Instr.sameBits]⟩
  | int k n => simp only [RV] at r r'; subst r r'; exact ⟨rfl, fun n => by cases n <;> simp [Instr.sameBits]⟩
  | str s => simp only [RV] at r r'; subst r r'; exact ⟨rfl, fun n => by cases n <;> simp [Instr.sameBits, beq_bytes]⟩
  | _ => simp [isKeyS] at h
theorem keyS_all : ∀ {l : List AV} {us us' : List Value}, allKeyS l = true → RVs ρ l us → RVs ρ l us' → us = us' ∧ ∀ n, (us.zip us).all (fun (x, y) => Instr.sameBits n x y) = true
  | [], us, us', _, r, r' => by simp only [RVs] at r r'; subst r r'; simp
  | v :: vs, _, _, h, ⟨x, xs, rx, rs, e⟩, ⟨y, ys, ry, rs', e'⟩ => by
    subst e e'
    simp only [allKeyS] at h
    split at h
    · rename_i hs
      obtain ⟨h1, h2⟩ := keyS_same hs rx ry
      obtain ⟨h3, h4⟩ := keyS_all h rs rs'
      subst h1 h3
      refine ⟨rfl, fun n => ?_⟩
      have := h4 n
      simp only [List.zip_cons_cons, List.all_cons, h2 n, Bool.true_and]
      exact this
    · cases h
theorem key_same {k : AV} (h : isKey k = true) {u u' : Value} (r : RV ρ k u) (r' : RV ρ k u') : u = u' ∧ ∀ n, Instr.sameBits (n + 1) u u = true := by
  cases k with
  | agg l =>
    obtain ⟨us, rs, e⟩ := r
    obtain ⟨us', rs', e'⟩ := r'
    obtain ⟨h1, h2⟩ := keyS_all (l := l) h rs rs'
    subst h1 e e'
    refine ⟨rfl, fun n => ?_⟩
    simp only [Instr.sameBits, beq_self_eq_true, Bool.true_and]
    exact h2 n
  | bool _ | int _ _ | str _ =>
    obtain ⟨h1, h2⟩ := keyS_same (by simp [isKeyS]) r r'
    exact ⟨h1, fun n => h2 (n + 1)⟩
  | _ => simp [isKey, isKeyS] at h

mutual
theorem avEq_eq : ∀ {a b : AV}, avEq a b = true → a = b
  | .bool a, b, h => by cases b <;> simp [avEq] at h; rw [h]
  | .int k a, b, h => by cases b <;> simp [avEq] at h; rw [h.1, h.2]
  | .str a, b, h => by cases b <;> simp [avEq] at h; rw [h]
  | .nilp, b, h => by cases b <;> simp [avEq] at h; rfl
  | .ptr i o, b, h => by cases b <;> simp [avEq] at h; rw [h.1, h.2]
  | .gptr i o, b, h => by cases b <;> simp [avEq] at h; rw [h.1, h.2]
  | .nils, b, h => by cases b <;> simp [avEq] at h; rfl
  | .hole, b, h => by cases b <;> simp [avEq] at h; rfl
  | .slice i o e l c, b, h => by
    cases b <;> simp [avEq] at h
    obtain ⟨⟨⟨⟨h1, h2⟩, h3⟩, h4⟩, h5⟩ := h
    rw [h1, h2, h3, h4, h5]
  | .nilm, b, h => by cases b <;> simp [avEq] at h; rfl
  | .map i, b, h => by cases b <;> simp [avEq] at h; rw [h]
  | .fn f x y, b, h => by cases b <;> simp [avEq] at h; rw [h.1.1, avsEq_eq h.1.2, avsEq_eq h.2]
  | .nilf, b, h => by cases b <;> simp [avEq] at h; rfl
  | .iface t v, b, h => by cases b <;> simp [avEq] at h; rw [h.1, avEq_eq h.2]
  | .nili, b, h => by cases b <;> simp [avEq] at h; rfl
  | .agg a, b, h => by cases b <;> simp [avEq] at h; rw [avsEq_eq h]
  | .tup a, b, h => by cases b <;> simp [avEq] at h; rw [avsEq_eq h]
theorem avsEq_eq : ∀ {a b : List AV}, avsEq a b = true → a = b
  | [], [], _ => rfl
  | [], _ :: _, h => by simp [avsEq] at h
  | _ :: _, [], h => by simp [avsEq] at h
  | a :: l, b :: r, h => by simp [avsEq] at h; rw [avEq_eq h.1, avsEq_eq h.2]
end

/-! ### a step -/
structure Stp (ρ : Map) (base : Nat) (g : GetF) (w : World) (ρ' : Map) (g' : GetF) (w' : World) : Prop where
  mono : Mono ρ ρ'
  keeps : Keeps (owns ρ g) w w'
  rh : RH ρ' base g' w'
  grow : ∀ b, owns ρ' g' b → owns ρ g b ∨ w.heap.size ≤ b

theorem Stp.same {g : GetF} {w : World} (r : RH ρ base g w) : Stp ρ base g w ρ g w := ⟨Mono.refl ρ, Keeps.refl _ _, r, fun _ h => .inl h⟩
theorem Stp.draw {g : GetF} {w : World} (r : RH ρ base g w) : Stp ρ base g w ρ g w.drew := ⟨Mono.refl ρ, Keeps.drew _ _, ⟨r.blk, r.inj⟩, fun _ h => .inl h⟩
theorem Stp.trans {ρ1 ρ2 : Map} {g g1 g2 : GetF} {w w1 w2 : World} (h : Stp ρ base g w ρ1 g1 w1) (k : Stp ρ1 base g1 w1 ρ2 g2 w2) : Stp ρ base g w ρ2 g2 w2 :=
  ⟨h.mono.trans k.mono, h.keeps.trans k.keeps h.grow, k.rh, fun b hb => (k.grow b hb).elim (h.grow b) (fun hs => .inr (Nat.le_trans h.keeps.size hs))⟩

/-- one block of the heap is written -/
theorem Stp.upd {h : Heap} {w w' : World} (r : RH ρ base (hget h) w) {id : Nat} {ab ab' : AB} {e : Ent} {ob' : Obj} (hg : hget h id = some ab) (hd : Mine ab) (hd' : NoRom ab') (he : ρ id = some e)
    (hos : w'.os = w.os) (htp : w'.tape = w.tape) (hou : w'.output = w.output) (hsz : w'.heap.size = w.heap.size)
    (hb : w'.heap[e.b]? = some ob') (ho : ∀ b, b ≠ e.b → w'.heap[b]? = w.heap[b]?) (rb : RB ρ e ab' ob') : Stp ρ base (hget h) w ρ (hget (hset h id ab')) w' := by
  have hl : live (hget h) id := ⟨ab, hg, hd⟩
  refine ⟨Mono.refl ρ, ⟨hos, htp, hou, by omega, fun b _ hn => ho b (fun e' => hn ⟨id, e, hl, he, e'.symm⟩)⟩, ?_, ?_⟩
  · rw [hget_upd]; exact r.upd hg hd hd' he hb ho rb
  · rintro b ⟨i, e', ⟨x, hx, hdx⟩, hi, hbb⟩
    left
    rw [hget_upd] at hx
    simp only at hx
    split at hx
    · rename_i heq; subst heq; exact ⟨i, e', hl, hi, hbb⟩
    · exact ⟨i, e', ⟨x, hx, hdx⟩, hi, hbb⟩

def AO (_P : Program) (ρ : Map) (base key : Nat) (s : St) (w : World) (run : Result Next) : Out → Prop
  | .val v s' => ∃ ρ' w', Stp ρ base (hget s.h) w ρ' (hget s'.h) w' ∧ (∀ i, i ≠ key → ρ' i = ρ i) ∧ s'.fc = s.fc ∧ ((∃ u, run = .ok (.value u) w' ∧ RV ρ' v u) ∨ (run = .ok .skip w' ∧ v = .undef))
  | .pan v s' => ∃ u, run = .halt (.panic u) w ∧ RV ρ v u ∧ s' = s

/-- One of the outcomes comes about. -/
def Some1 (P : Program) (ρ : Map) (base key : Nat) (s : St) (w : World) (run : Result Next) (outs : List Out) : Prop := ∃ o ∈ outs, AO P ρ base key s w run o

theorem run_setObj {w : World} {b : Nat} {o o' : Obj} (h : w.heap[b]? = some o) (hn : ∀ c t f, o ≠ .cells c t f) :
    (setObj b o').run P w = .ok () { w with heap := w.heap.setIfInBounds b o' } := by
  cases o <;> simp_all [setObj, Sem.run]
theorem setObj_heap {w : World} {b : Nat} {o o' : Obj} (h : w.heap[b]? = some o) : (w.heap.setIfInBounds b o')[b]? = some o' ∧ (∀ c, c ≠ b → (w.heap.setIfInBounds b o')[c]? = w.heap[c]?) := by
  have hlt : b < w.heap.size := (Array.getElem?_eq_some_iff.1 h).1
  refine ⟨by simp [hlt], fun c hc => by simp [Array.getElem?_setIfInBounds_ne (Ne.symm hc)]⟩

section
variable {key : Nat} {s : St} {w : World} {outs : List Out}

theorem oneOut_spec {v : AV} {o : Option St} (h : oneOut v o = some outs) : ∃ s', o = some s' ∧ outs = [.val v s'] := by
  unfold oneOut at h
  split at h
  · cases h; exact ⟨_, rfl, rfl⟩
  · cases h
theorem upH_spec {o : Option Heap} {s' : St} (h : upH s o = some s') : ∃ h', o = some h' ∧ s' = ⟨h', s.fc⟩ := by
  unfold upH at h
  split at h
  · cases h; exact ⟨_, rfl, St.withH_eq _ _⟩
  · cases h

/-- cells written -/
theorem Stp.write {h h' : Heap} {w : World} (r : RH ρ base (hget h) w) {id off : Nat} {vs : List AV} (hw : writeCells h id off vs = some h') {e : Ent} (he : ρ id = some e) {us : List Value} (ru : RVs ρ vs us) :
    ∃ w', (storeCells ⟨e.b, e.o + off, none⟩ us).run P w = .ok () w' ∧ Stp ρ base (hget h) w ρ (hget h') w' := by
  obtain ⟨w', h1, h2, h3, h4, h5⟩ := write_sound (P := P) r hw he ru
  refine ⟨w', h1, Mono.refl ρ, ⟨h3.os, h3.tape, h3.output, h3.size, fun b hb hn => h3.block b hb (fun e' => hn ?_)⟩, h2, ?_⟩
  · obtain ⟨cs, m, es, _, hg, _⟩ := writeCells_eq hw
    exact ⟨id, e, ⟨_, hg, by simp⟩, he, e'.symm⟩
  · rintro b ⟨i, e', hl, hi, hbb⟩
    exact .inl ⟨i, e', (h5 i).1 hl, hi, hbb⟩

theorem a_store {t : TypeId} {x y : Operand} (rh : RH ρ base (hget s.h) w) (r : RF ρ fr a) (h : aSt s (fr.ev x) (fr.ev y) (sizeT P t) = some outs) {dst : Option Tmp} {ty : TypeId} {pos : String} {after : Array Edge} {gd : Option (Nat × Bool)} :
    Some1 P ρ base key s w ((execOp a.eval ⟨dst, .store t x y, ty, pos, after, gd⟩).run P w) outs := by
  unfold aSt at h
  split at h
  · rename_i id off v n hx hy hn
    split at h
    · rename_i hb
      have hb := Nat.eq_of_beq_eq_true hb
      obtain ⟨s', ho, rfl⟩ := oneOut_spec h
      obtain ⟨h', hw, rfl⟩ := upH_spec ho
      obtain ⟨e, he, hax⟩ := r.ev hx
      have rv := r.ev hy
      have rc := cells_rv rv
      obtain ⟨w', hr, hs⟩ := Stp.write (P := P) rh hw he rc
      refine ⟨_, List.mem_singleton.2 rfl, ρ, w', hs, fun _ _ => rfl, rfl, .inr ⟨?_, rfl⟩⟩
      have hsz : (a.eval y).cells.size = n := by have := RVs.length rc; simp at this; omega
      simp only [execOp, Instr.storeAt, hax, Instr.sureAddr, Sem.run_bind, Sem.run_pure, Result.andThen_ok, storeVar, run_sizeT hn, hsz]
      simp [hr]
    · cases h
  · cases h

theorem RE_set : ∀ {es : MEs} {l : List MapEntry} {i : Nat} {x : AV × AV × Nat} {k' v' : Value}, REs ρ es l → RV ρ x.1 k' → RV ρ x.2.1 v' → REs ρ (setAt es i x) (l.set i ⟨k', v', x.2.2⟩)
  | [], l, i, x, k', v', r, _, _ => by simp only [REs] at r; subst r; cases i <;> simp [setAt, REs]
  | (_, _, _) :: _, _, 0, x, k', v', ⟨k2, v2, l2, r1, r2, rs, e⟩, hk, hv => by
    subst e; obtain ⟨xk, xv, xb⟩ := x; exact ⟨k', v', l2, hk, hv, rs, rfl⟩
  | (_, _, _) :: _, _, i + 1, x, k', v', ⟨k2, v2, l2, r1, r2, rs, e⟩, hk, hv => by
    subst e; exact ⟨k2, v2, _, r1, r2, RE_set rs hk hv, rfl⟩
theorem RE_snoc : ∀ {es : MEs} {l : List MapEntry} {k v : AV} {b : Nat} {k' v' : Value}, REs ρ es l → RV ρ k k' → RV ρ v v' → REs ρ (es ++ [(k, v, b)]) (l ++ [⟨k', v', b⟩])
  | [], l, k, v, b, k', v', r, hk, hv => by simp only [REs] at r; subst r; exact ⟨k', v', [], hk, hv, rfl, rfl⟩
  | (_, _, _) :: _, _, k, v, b, k', v', ⟨k2, v2, l2, r1, r2, rs, e⟩, hk, hv => by
    subst e; exact ⟨k2, v2, _, r1, r2, RE_snoc rs hk hv, rfl⟩
theorem RE_drop : ∀ {es : MEs} {l : List MapEntry} {i : Nat}, REs ρ es l → REs ρ (dropAt es i) (l.eraseIdx i)
  | [], l, i, r => by simp only [REs] at r; subst r; cases i <;> simp [dropAt, REs]
  | (_, _, _) :: _, _, 0, ⟨k2, v2, l2, r1, r2, rs, e⟩ => by subst e; exact rs
  | (_, _, _) :: _, _, i + 1, ⟨k2, v2, l2, r1, r2, rs, e⟩ => by subst e; exact ⟨k2, v2, _, r1, r2, RE_drop rs, rfl⟩
end
end Go.Ai

namespace Go.Ai
open Go
variable {P : Program} {ρ : Map} {fr : Fr} {a : Act} {base key : Nat} {s : St} {w : World} {outs : List Out}

theorem AO.unit {S : Sem Unit} {w' : World} {s' : St} (hr : S.run P w = .ok () w') (hs : Stp ρ base (hget s.h) w ρ (hget s'.h) w') (hfc : s'.fc = s.fc) :
    AO P ρ base key s w ((do S; pure .skip : Sem Next).run P w) (.val .undef s') :=
  ⟨ρ, w', hs, fun _ _ => rfl, hfc, .inr ⟨by simp [hr], rfl⟩⟩
theorem AO.value {S : Sem Value} {w' : World} {s' : St} {v : AV} {u : Value} (hr : S.run P w = .ok u w') (hs : Stp ρ base (hget s.h) w ρ (hget s'.h) w') (hfc : s'.fc = s.fc) (ru : RV ρ v u) :
    AO P ρ base key s w ((do pure (.value (← S)) : Sem Next).run P w) (.val v s') :=
  ⟨ρ, w', hs, fun _ _ => rfl, hfc, .inl ⟨u, by simp [hr], ru⟩⟩
theorem Some1.one {run : Result Next} {o : Out} (h : AO P ρ base key s w run o) : Some1 P ρ base key s w run [o] := ⟨o, List.mem_singleton.2 rfl, h⟩

theorem upd_h (s : St) (k : Nat) (b : AB) : (s.upd k b).h = hset s.h k b ∧ (s.upd k b).fc = s.fc := by rw [St.upd_eq]; exact ⟨rfl, rfl⟩

/-- a block of a map -/
theorem RH.map {h : Heap} (r : RH ρ base (hget h) w) {id clock : Nat} {es : MEs} (hg : hget h id = some (.map es clock)) {e : Ent} (he : ρ id = some e) :
    ∃ ents : Array MapEntry, w.heap[e.b]? = some (.map ents clock) ∧ REs ρ es ents.toList := by
  obtain ⟨e', ob, h1, h2, h3, ents, h4, h5⟩ := r.blk id _ hg (by simp)
  rw [he] at h1; cases h1
  subst h4
  exact ⟨ents, h3, h5⟩
theorem Stp.map {h : Heap} (r : RH ρ base (hget h) w) {id clock clock' : Nat} {es es' : MEs} (hg : hget h id = some (.map es clock)) {e : Ent} (he : ρ id = some e) {ents' : Array MapEntry} (re : REs ρ es' ents'.toList) :
    ∃ w', (setObj e.b (.map ents' clock')).run P w = .ok () w' ∧ Stp ρ base (hget h) w ρ (hget (hset h id (.map es' clock'))) w' := by
  obtain ⟨ents, hb, _⟩ := r.map hg he
  refine ⟨_, run_setObj hb (by simp), ?_⟩
  obtain ⟨h1, h2⟩ := setObj_heap (o' := .map ents' clock') hb
  exact Stp.upd r hg (by simp) (by simp) he rfl rfl rfl (by simp) h1 h2 ⟨ents', rfl, re⟩

theorem modify_list {ents : Array MapEntry} {i : Nat} {x : MapEntry} {f : MapEntry → MapEntry} (h : ents.toList[i]? = some x) : (ents.modify i f).toList = ents.toList.set i (f x) := by
  apply List.ext_getElem?
  intro j
  have h' : ents[i]? = some x := by simpa using h
  obtain ⟨hlt, hx⟩ := Array.getElem?_eq_some_iff.1 h'
  rw [Array.getElem?_toList, Array.getElem?_modify, List.getElem?_set]
  by_cases hj : i = j
  · subst hj; simp [hlt, hx]
  · simp [hj]

theorem setK_spec {t : TypeId} {k v : AV} {es es' : MEs} {clock clock' : Nat} (h : setK P t k v es clock = some (es', clock')) :
    keyOk P t k = true ∧ ((findK P t k es 0 = some none ∧ es' = es ++ [(k, v, clock)] ∧ clock' = clock + 1) ∨
      ∃ i v0 b, findK P t k es 0 = some (some (i, k, v0, b)) ∧ isKey k = true ∧ es' = setAt es i (k, v, b) ∧ clock' = clock) := by
  unfold setK at h
  split at h
  · rename_i hk
    refine ⟨hk, ?_⟩
    unfold setK2 at h
    split at h
    · rename_i hf
      simp only [listC_eq, natC_eq, Option.some.injEq, Prod.mk.injEq] at h
      exact .inl ⟨hf, h.1.symm, h.2.symm⟩
    · rename_i i k' v0 b hf
      split at h
      · rename_i e1 e2
        simp only [listC_eq, Option.some.injEq, Prod.mk.injEq] at h
        have := avEq_eq e1
        subst this
        exact .inr ⟨i, v0, b, hf, e2, h.1.symm, h.2.symm⟩
      · cases h
    · cases h
  · cases h

theorem a_mapUpdate {t : TypeId} {m k v : Operand} (rh : RH ρ base (hget s.h) w) (r : RF ρ fr a) (h : aMU P s (P.underlying t) (fr.ev m) (fr.ev k) (fr.ev v) = some outs) {dst : Option Tmp} {ty : TypeId} {pos : String} {after : Array Edge} {gd : Option (Nat × Bool)} :
    Some1 P ρ base key s w ((execOp a.eval ⟨dst, .mapUpdate t m k v, ty, pos, after, gd⟩).run P w) outs := by
  unfold aMU at h
  split at h
  · rename_i kt et id kk vv hd hm hk hv
    unfold aMU2 at h
    split at h
    · rename_i es clock hg
      unfold aMU3 at h
      split at h
      · rename_i es' c' hs
        cases h
        obtain ⟨e, he, hx⟩ := r.ev hm
        obtain ⟨ents, hb, re⟩ := rh.map hg he
        obtain ⟨hko, hc⟩ := setK_spec hs
        obtain ⟨dk, hdk⟩ := keyOk_und hko
        have rk := r.ev hk
        have rv := r.ev hv
        obtain ⟨u1, u2⟩ := upd_h s id (.map es' c')
        rcases hc with ⟨hf, rfl, rfl⟩ | ⟨i, v0, b, hf, hik, rfl, rfl⟩
        · obtain ⟨o', f1, f2⟩ := findKey_sound hdk rk w hf re
          simp only [Found] at f2; subst f2
          obtain ⟨w', hr, hst⟩ := Stp.map (P := P) rh hg he (clock' := clock + 1) (es' := es ++ [(kk, vv, clock)]) (ents' := ents.push ⟨a.eval k, a.eval v, clock⟩) (by rw [Array.toList_push]; exact RE_snoc re rk rv)
          refine .one (AO.unit (w' := w') ?_ (by rw [u1]; exact hst) u2)
          simp only [Instr.mapUpdate, Sem.run_bind, run_und hd, Result.andThen_ok, hx, run_getObj hb (by simp), check_sound hko rk, f1, hr]
        · obtain ⟨o', f1, k'', v'', rfl, rk'', rv'', _, hl⟩ := findKey_sound hdk rk w hf re
          obtain ⟨hkk, hsame⟩ := key_same hik rk rk''
          have hl' : ents.toList[i]? = some ⟨k'', v'', b⟩ := by simpa using hl
          have hl'' : ents[i]? = some ⟨k'', v'', b⟩ := by simpa using hl'
          obtain ⟨w', hr, hst⟩ := Stp.map (P := P) rh hg he (clock' := c') (es' := setAt es i (kk, vv, b)) (ents' := ents.modify i fun e => { e with key := a.eval k, val := a.eval v }) (by rw [modify_list hl']; exact RE_set re rk rv)
          refine .one (AO.unit (w' := w') ?_ (by rw [u1]; exact hst) u2)
          have hsb : Instr.sameBits 10000 k'' (a.eval k) = true := by rw [← hkk]; exact hsame 9999
          simp only [Instr.mapUpdate, Sem.run_bind, run_und hd, Result.andThen_ok, hx, run_getObj hb (by simp), check_sound hko rk, f1, hl'', Option.map_some, Option.getD_some, Instr.keyThatStays, hsb, if_true, Sem.run_pure, hr]
      · cases h
    · cases h
  · cases h

theorem heap_same {b : Nat} {o : Obj} (h : w.heap[b]? = some o) : { w with heap := w.heap.setIfInBounds b o } = w := by
  have : w.heap.setIfInBounds b o = w.heap := by
    apply Array.ext_getElem?
    intro i
    rw [Array.getElem?_setIfInBounds]
    split
    · rename_i e; subst e; obtain ⟨this, h2⟩ := Array.getElem?_eq_some_iff.1 h; simp [this, h2]
    · rfl
  rw [this]

theorem a_mapEntry {t : TypeId} {m k : Operand} (rh : RH ρ base (hget s.h) w) (r : RF ρ fr a) (h : aME P s (P.underlying t) (fr.ev m) (fr.ev k) = some outs) {dst : Option Tmp} {ty : TypeId} {pos : String} {after : Array Edge} {gd : Option (Nat × Bool)} :
    Some1 P ρ base key s w ((execOp a.eval ⟨dst, .mapEntry t m k, ty, pos, after, gd⟩).run P w) outs := by
  unfold aME at h
  split at h
  · rename_i kt et id kk hd hm hk
    unfold aME2 at h
    split at h
    · rename_i es clock z hko hg hz
      obtain ⟨e, he, hx⟩ := r.ev hm
      obtain ⟨ents, hb, re⟩ := rh.map hg he
      obtain ⟨dk, hdk⟩ := keyOk_und hko
      obtain ⟨zu, hzu, rz, _⟩ := zero_rv (ρ := ρ) hz
      have rk := r.ev hk
      unfold aME3 at h
      split at h
      · rename_i i k' v' b hf
        split at h
        · rename_i e1 hik
          cases h
          have := avEq_eq e1; subst this
          obtain ⟨o', f1, k'', v'', rfl, rk'', rv'', _, hl⟩ := findKey_sound hdk rk w hf re
          obtain ⟨hkk, hsame⟩ := key_same hik rk rk''
          have hl' : ents.toList[i]? = some ⟨k'', v'', b⟩ := by simpa using hl
          have hl'' : ents[i]? = some ⟨k'', v'', b⟩ := by simpa using hl'
          have hsb : Instr.sameBits 10000 k'' (a.eval k) = true := by rw [← hkk]; exact hsame 9999
          have hmod : ents.modify i (fun e => { e with key := a.eval k }) = ents := by
            apply Array.toList_inj.1
            rw [modify_list hl', hkk]
            simp only
            apply List.ext_getElem?
            intro j
            rw [List.getElem?_set]
            split
            · rename_i ej; subst ej
              have := (List.getElem?_eq_some_iff.1 hl').1
              rw [if_pos this, hl']
            · rfl
          have hso : (setObj e.b (.map ents clock)).run P w = .ok () w := by rw [run_setObj hb (by simp), heap_same hb]
          refine .one (AO.value (u := .tuple #[v'', goInt b]) ?_ (Stp.same rh) rfl ⟨[v'', goInt b], ⟨_, _, rv'', ⟨_, _, rfl, rfl, rfl⟩, rfl⟩, rfl⟩)
          simp only [Instr.mapEntry, Sem.run_bind, run_und hd, Result.andThen_ok, hx, run_getObj hb (by simp), check_sound hko rk, f1, hl'', Option.map_some, Option.getD_some, Instr.keyThatStays, hsb, if_true, Sem.run_pure, hmod, hso]
        · cases h
      · rename_i hf
        unfold aME4 at h
        split at h
        · rename_i es' c' hs
          cases h
          obtain ⟨_, hc⟩ := setK_spec hs
          obtain ⟨u1, u2⟩ := upd_h s id (.map es' c')
          rcases hc with ⟨_, rfl, rfl⟩ | ⟨i, v0, b, hf2, _⟩
          · obtain ⟨o', f1, f2⟩ := findKey_sound hdk rk w hf re
            simp only [Found] at f2; subst f2
            obtain ⟨w', hr, hst⟩ := Stp.map (P := P) rh hg he (clock' := clock + 1) (es' := es ++ [(kk, z, clock)]) (ents' := ents.push ⟨a.eval k, zu, clock⟩) (by rw [Array.toList_push]; exact RE_snoc re rk rz)
            refine .one (AO.value (w' := w') (u := .tuple #[zu, goInt clock]) ?_ (by rw [u1]; exact hst) u2 ⟨[zu, goInt clock], ⟨_, _, rz, ⟨_, _, rfl, rfl, rfl⟩, rfl⟩, rfl⟩)
            simp only [Instr.mapEntry, Sem.run_bind, run_und hd, Result.andThen_ok, hx, run_getObj hb (by simp), check_sound hko rk, f1, hzu, hr, Sem.run_pure]
          · rw [hf] at hf2; cases hf2
        · cases h
      · cases h
    · cases h
  · cases h

theorem setStamp_spec {v : AV} {v' : Value} (rv : RV ρ v v') : ∀ {es es' : MEs} {stamp : Nat} {l : List MapEntry}, setStamp v stamp es = some es' → REs ρ es l →
    ∃ i x, l.findIdx? (fun e => (e.born : Int) == (stamp : Int)) = some i ∧ l[i]? = some x ∧ REs ρ es' (l.set i { x with val := v' })
  | [], es', stamp, l, h, r => by simp [setStamp] at h
  | (k, v1, b) :: es, es', stamp, _, h, ⟨k', v1', l', rk, rv1, rs, e⟩ => by
    subst e
    simp only [setStamp] at h
    split at h
    · rename_i hb
      cases h
      have : b = stamp := Nat.eq_of_beq_eq_true hb
      subst this
      exact ⟨0, _, by simp [List.findIdx?_cons], rfl, k', v', l', rk, rv, rs, rfl⟩
    · rename_i hb
      split at h
      · rename_i es2 h2
        cases h
        obtain ⟨i, x, h3, h4, h5⟩ := setStamp_spec rv h2 rs
        have hne : b ≠ stamp := by intro e; subst e; simp at hb
        refine ⟨i + 1, x, ?_, by simpa using h4, k', v1', _, rk, rv1, h5, rfl⟩
        rw [List.findIdx?_cons]
        have : ((b : Int) == (stamp : Int)) = false := by simp; omega
        simp only [this, Bool.false_eq_true, if_false, h3, Option.map_some]
      · cases h

theorem a_entryStore {t : TypeId} {m st v : Operand} (rh : RH ρ base (hget s.h) w) (r : RF ρ fr a) (h : aES s (fr.ev m) (fr.ev st) (fr.ev v) = some outs) {dst : Option Tmp} {ty : TypeId} {pos : String} {after : Array Edge} {gd : Option (Nat × Bool)} :
    Some1 P ρ base key s w ((execOp a.eval ⟨dst, .entryStore t m st v, ty, pos, after, gd⟩).run P w) outs := by
  unfold aES at h
  split at h
  · rename_i id sv vv hm hsv hv
    unfold aES2 at h
    split at h
    · rename_i stamp es clock hn hg
      unfold aES3 at h
      split at h
      · rename_i es' hs
        cases h
        obtain ⟨e, he, hx⟩ := r.ev hm
        obtain ⟨ents, hb, re⟩ := rh.map hg he
        obtain ⟨kn, hkn⟩ := natOf_spec hn (r.ev hsv)
        obtain ⟨i, x, h1, h2, h3⟩ := setStamp_spec (r.ev hv) hs re
        obtain ⟨u1, u2⟩ := upd_h s id (.map es' clock)
        obtain ⟨w', hr, hst⟩ := Stp.map (P := P) rh hg he (clock' := clock) (es' := es') (ents' := ents.modify i fun e => { e with val := a.eval v }) (by rw [modify_list h2]; exact h3)
        refine .one (AO.unit (w' := w') ?_ (by rw [u1]; exact hst) u2)
        have hfi : ents.findIdx? (fun e => (e.born : Int) == (stamp : Int)) = some i := by
          have := List.findIdx?_toArray (l := ents.toList) (p := fun e : MapEntry => (e.born : Int) == (stamp : Int))
          rw [Array.toArray_toList] at this
          rw [this]; exact h1
        simp only [Instr.entryStore, hx, Sem.run_bind, run_getObj hb (by simp), Result.andThen_ok, hkn, asInt, asIntOf, Sem.run_pure, hfi, hr]
      · cases h
    · cases h
  · cases h

theorem a_panic {x : Operand} (r : RF ρ fr a) (h : aPanic s (fr.ev x) = some outs) {dst : Option Tmp} {ty : TypeId} {pos : String} {after : Array Edge} {gd : Option (Nat × Bool)} :
    Some1 P ρ base key s w ((execOp a.eval ⟨dst, .panic x, ty, pos, after, gd⟩).run P w) outs := by
  unfold aPanic at h
  split at h
  · rename_i t v hx
    cases h
    have rx := r.ev hx
    obtain ⟨u, ru, hu⟩ := rx
    refine .one ⟨_, ?_, r.ev hx, rfl⟩
    simp only [execOp, hu, Instr.panic, Sem.run_bind]
    rfl
  · cases h
end Go.Ai

namespace Go.Ai
open Go
variable {P : Program} {ρ : Map} {fr : Fr} {a : Act} {base key : Nat} {s : St} {w : World} {outs : List Out}

/-! ### the next entry -/
theorem RE_filter (f : Nat → Bool) : ∀ {es : MEs} {l : List MapEntry}, REs ρ es l → REs ρ (es.filter fun e => f e.2.2) (l.filter fun e => f e.born)
  | [], _, r => by simp only [REs] at r; subst r; rfl
  | (k, v, b) :: es, _, ⟨k', v', l', rk, rv, rs, e⟩ => by
    subst e
    have ih := RE_filter f rs
    simp only [List.filter_cons]
    cases f b
    · simpa using ih
    · simp only [if_true]; exact ⟨k', v', _, rk, rv, ih, rfl⟩
theorem RE_all (f : Nat → Bool) : ∀ {es : MEs} {l : List MapEntry}, REs ρ es l → es.all (fun e => f e.2.2) = l.all (fun e => f e.born)
  | [], _, r => by simp only [REs] at r; subst r; rfl
  | (k, v, b) :: es, _, ⟨k', v', l', rk, rv, rs, e⟩ => by subst e; simp [RE_all f rs]
theorem RE_any (f : Nat → Bool) : ∀ {es : MEs} {l : List MapEntry}, REs ρ es l → es.any (fun e => f e.2.2) = l.any (fun e => f e.born)
  | [], _, r => by simp only [REs] at r; subst r; rfl
  | (k, v, b) :: es, _, ⟨k', v', l', rk, rv, rs, e⟩ => by subst e; simp [RE_any f rs]
theorem RE_get : ∀ {es : MEs} {l : List MapEntry} {i : Nat} {x : MapEntry}, REs ρ es l → l[i]? = some x → ∃ k v, es[i]? = some (k, v, x.born) ∧ RV ρ k x.key ∧ RV ρ v x.val
  | [], _, i, x, r, h => by simp only [REs] at r; subst r; simp at h
  | (k, v, b) :: es, _, 0, x, ⟨k', v', l', rk, rv, rs, e⟩, h => by subst e; simp at h; subst h; exact ⟨k, v, rfl, rk, rv⟩
  | (k, v, b) :: es, _, i + 1, x, ⟨k', v', l', rk, rv, rs, e⟩, h => by subst e; simp only [List.getElem?_cons_succ] at h ⊢; exact RE_get rs h

theorem RE_empty {es : MEs} {ents : Array MapEntry} (r : REs ρ es ents.toList) : es.isEmpty = ents.isEmpty := by
  have hl := REs.length r
  obtain ⟨l⟩ := ents
  cases es <;> cases l <;> simp at hl ⊢

theorem nextOuts_mem {id m since clock : Nat} {seen : List Nat} : ∀ {l : MEs} {i : Nat} {e : AV × AV × Nat}, l[i]? = some e →
    Out.val (.tup [.bool true, e.1, e.2.1]) (s.upd id (.mit (some m) since (seen ++ [e.2.2]) clock)) ∈ nextOuts s id m since seen clock l
  | [], i, e, h => by simp at h
  | x :: l, 0, e, h => by simp at h; subst h; exact List.mem_cons_self
  | x :: l, i + 1, e, h => by
    simp only [List.getElem?_cons_succ] at h
    exact List.mem_cons_of_mem _ (nextOuts_mem h)

theorem a_next {it : Operand} (rh : RH ρ base (hget s.h) w) (r : RF ρ fr a) (h : aNx s (fr.ev it) = some outs) {dst : Option Tmp} {ty : TypeId} {pos : String} {after : Array Edge} {gd : Option (Nat × Bool)} :
    Some1 P ρ base key s w ((execOp a.eval ⟨dst, .next it false, ty, pos, after, gd⟩).run P w) outs := by
  unfold aNx at h
  split at h
  · rename_i id hv
    obtain ⟨e, he, hx⟩ := r.ev hv
    unfold aNx1 at h
    split at h
    · rename_i hg
      obtain ⟨e', ob, h1, h2, h3, m', h0, h4, hm'⟩ := rh.blk id _ hg (by simp)
      rw [he] at h1; cases h1
      subst hm'
      cases h
      rw [h0] at hx
      refine .one (AO.value (u := .tuple #[.bool false]) ?_ (Stp.same rh) rfl ⟨[.bool false], ⟨_, _, rfl, rfl, rfl⟩, rfl⟩)
      simp only [Instr.next, hx, Sem.run_bind, run_getObj h3 (by rw [h4]; simp), Result.andThen_ok, h4, Sem.run_pure]
    · rename_i m since seen last hg
      obtain ⟨e', ob, h1, h2, h3, m', h0, h4, e2, he2, hm'⟩ := rh.blk id _ hg (by simp)
      rw [he] at h1; cases h1
      subst hm'
      rw [h0] at hx
      unfold aNx2 at h
      split at h
      · rename_i es clock hgm
        obtain ⟨ents, hb, re⟩ := rh.map hgm he2
        split at h
        · cases h
        · rename_i hgone
          unfold aNx3 at h
          split at h
          · cases h
          · rename_i hnew
            have hempty : es.isEmpty = ents.isEmpty := RE_empty re
            have hall : es.all (fun e => Nat.ble last e.2.2) = ents.all (fun x => decide (x.born ≥ last)) := by
              rw [RE_all (Nat.ble last) re, ← Array.all_toList]
              congr 1
              funext x
              rw [Bool.eq_iff_iff]; simp
            have hgone' : (!seen.toArray.isEmpty && !ents.isEmpty && ents.all (fun x => decide (x.born ≥ last))) = false := by
              rw [← hall, ← hempty]
              simpa using hgone
            have hleft : (ents.filter fun e => !seen.toArray.contains e.born).toList = ents.toList.filter fun e => !seen.contains e.born := by
              rw [Array.toList_filter]
              congr 1
              funext x
              simp
            generalize hL : ents.filter (fun e => !seen.toArray.contains e.born) = L at hleft
            have rl : REs ρ (es.filter fun e => !seen.contains e.2.2) L.toList := by rw [hleft]; exact RE_filter (fun b => !seen.contains b) re
            generalize hE : (es.filter fun e => !seen.contains e.2.2) = E at rl h hnew
            have hold : L.filter (fun x => decide (x.born < since)) = L ∧ L.filter (fun x => decide (x.born ≥ since)) = #[] := by
              have hq := RE_any (fun b => !Nat.blt b since) rl
              rw [hnew] at hq
              have hall2 : ∀ x ∈ L, x.born < since := by
                intro x hxm
                have := List.any_eq_false.1 hq.symm x (by simpa using hxm)
                simpa using this
              refine ⟨by rw [Array.filter_eq_self]; intro x hxm; simpa using hall2 x hxm, by rw [Array.filter_eq_empty_iff]; intro x hxm; have := hall2 x hxm; simp; omega⟩
            have hrun : ((execOp a.eval ⟨dst, .next it false, ty, pos, after, gd⟩).run P w) = ((do
                let candidates := (if L.isEmpty then #[none] else #[]) ++ L.map some
                match candidates[← choose (.mapNext candidates.size)]? with
                | some (some e') => do
                  setObj e.b (.mapIter (some e2.b) since (seen.toArray.push e'.born) clock)
                  pure (.value (.tuple #[.bool true, e'.key, e'.val]))
                | some none => pure (.value (.tuple #[.bool false]))
                | none => stuck "Next: no such candidate" : Sem Next).run P w) := by
              simp only [execOp, Instr.next, hx, Sem.run_bind, run_getObj h3 (by rw [h4]; simp), Result.andThen_ok, h4, run_getObj hb (by simp), hgone', Bool.false_eq_true, if_false, hL, hold.1, hold.2, Array.append_empty]
              generalize (choose _).run P w = rr
              cases rr with
              | ok j w1 =>
                simp only [Result.andThen_ok]
                generalize ((if L.isEmpty = true then #[none] else #[]) ++ Array.map some L)[j]? = q
                rcases q with _ | _ | e'
                · rfl
                · rfl
                · simp only [Sem.run_bind]
                  cases (setObj e.b (Obj.mapIter (some e2.b) since (seen.toArray.push e'.born) clock)).run P w1 <;> rfl
              | _ => rfl
            rw [hrun]
            unfold aNx4 at h
            split at h
            · cases h
              have hLe : L = #[] := by
                have := REs.length rl
                apply Array.toList_inj.1
                exact List.length_eq_zero_iff.1 this.symm
              subst hLe
              refine .one ⟨ρ, w, Stp.same rh, fun _ _ => rfl, rfl, .inl ⟨.tuple #[.bool false], ?_, ⟨[.bool false], ⟨_, _, rfl, rfl, rfl⟩, rfl⟩⟩⟩
              have hf : (Question.mapNext 1).forced = true := rfl
              simp [hf]
            · rename_i hne
              cases h
              have hpos : 0 < L.size := by
                have := REs.length rl
                rcases Nat.eq_zero_or_pos L.size with h0 | h0
                · exact absurd (List.length_eq_zero_iff.1 (this.trans (by simpa using h0))) hne
                · exact h0
              have hch : ∃ (j : Nat) (w1 : World), j < L.size ∧ Stp ρ base (hget s.h) w ρ (hget s.h) w1 ∧ w1.heap = w.heap ∧ (choose (Question.mapNext L.size)).run P w = .ok j w1 := by
                rw [run_choose_drew]
                split
                · exact ⟨0, w, hpos, Stp.same rh, rfl, rfl⟩
                · exact ⟨_, w.drew, Nat.mod_lt _ hpos, Stp.draw rh, rfl, rfl⟩
              obtain ⟨j, w1, hj, hst, hhp, hrj⟩ := hch
              have hLx : L.toList[j]? = some L[j] := by simp [hj]
              obtain ⟨k, v, hk, rk, rv⟩ := RE_get rl hLx
              refine ⟨_, nextOuts_mem hk, ρ, { w1 with heap := w1.heap.setIfInBounds e.b (.mapIter (some e2.b) since (seen.toArray.push L[j].born) clock) }, ?_, fun _ _ => rfl, (upd_h s id _).2, .inl ⟨.tuple #[.bool true, L[j].key, L[j].val], ?_, ⟨[.bool true, L[j].key, L[j].val], ⟨_, _, rfl, ⟨_, _, rk, ⟨_, _, rv, rfl, rfl⟩, rfl⟩, rfl⟩, rfl⟩⟩⟩
              · rw [(upd_h s id _).1]
                refine hst.trans (Stp.upd hst.rh hg (by simp) (by simp) he rfl rfl rfl (by simp) (setObj_heap (o := ob) (by rw [hhp]; exact h3)).1 (setObj_heap (o := ob) (by rw [hhp]; exact h3)).2 ⟨some e2.b, h0, by simp, e2, he2, rfl⟩)
              · have hemp : L.isEmpty = false := by simp only [Array.isEmpty, decide_eq_false_iff_not]; omega
                have hso : (setObj e.b (.mapIter (some e2.b) since (seen.toArray.push L[j].born) clock)).run P w1 = .ok () { w1 with heap := w1.heap.setIfInBounds e.b (.mapIter (some e2.b) since (seen.toArray.push L[j].born) clock) } :=
                  run_setObj (o := ob) (by rw [hhp]; exact h3) (by rw [h4]; simp)
                simp only [hemp, Bool.false_eq_true, if_false, Array.empty_append, Array.size_map, Sem.run_bind, hrj, Result.andThen_ok, Array.getElem?_map, Array.getElem?_eq_getElem hj, Option.map_some, hso, Sem.run_pure]
      · cases h
    · cases h
  · cases h
end Go.Ai

/-! unsafe.String of bytes: what the model does. -/
namespace Go.Ai
open Go
variable {P : Program} {ρ : Map} {w : World}
theorem bsA_len : ∀ {cs : List AV} {l : List UInt8}, bsA cs = some l → l.length = cs.length
  | [], l, h => by simp only [bsA, Option.some.injEq] at h; subst h; rfl
  | x :: cs, l, h => by
    unfold bsA at h
    split at h
    · rename_i h2; cases h2
    · rename_i z r h2
      cases h2
      split at h
      · rename_i l' hl
        cases h
        simp [bsA_len hl]
      · cases h
    · cases h
theorem add_add (a : Addr) (hs : a.spot = none) (j : Nat) : (a.add 1).add j = a.add (j + 1) := by
  obtain ⟨b, o, s⟩ := a
  simp only at hs
  subst hs
  rw [add_none, add_none, add_none]
  congr 1
  omega
theorem load_bytesA : ∀ {cs : List AV} {vs : List Value} {l : List UInt8} (a : Addr) (acc : ByteArray), a.spot = none → RVs ρ cs vs → bsA cs = some l → (∀ (j : Nat) v, vs[j]? = some v → w.cell? (a.add j) = some v) →
    (loadBytes a acc l.length).run P w = .ok ⟨acc.data ++ l.toArray⟩ w
  | [], vs, l, a, acc, _, _, h, _ => by simp only [bsA, Option.some.injEq] at h; subst h; simp [loadBytes]
  | x :: cs, vs, l, a, acc, hs, r, h, hc => by
    unfold bsA at h
    split at h
    · rename_i h2; cases h2
    · rename_i z r' h2
      cases h2
      split at h
      · rename_i l' hl
        cases h
        obtain ⟨v, vs', rv, rs, rfl⟩ := r
        simp only [RV] at rv
        subst rv
        have h0 : w.cell? a = some (.int .u8 z) := by
          have := hc 0 _ rfl
          obtain ⟨b, o, s⟩ := a
          simp only at hs
          subst hs
          simpa [add_none] using this
        have ih := load_bytesA (a.add 1) (acc.push z.toNat.toUInt8) (by obtain ⟨b, o, s⟩ := a; simp only at hs; subst hs; rw [add_none]) rs hl (fun j v hj => by rw [add_add a hs]; exact hc (j + 1) v (by simpa using hj))
        simp only [List.length_cons, loadBytes, Sem.run_bind, run_load, h0, Result.andThen]
        rw [ih]
        congr 1
        apply ByteArray.ext
        simp [ByteArray.push]
      · cases h
    · cases h
theorem run_usA (pt it ty pe e : TypeId) (hp : P.underlying pt = some (.pointer pe)) (hpe : P.underlying pe = some (.int .u8)) (he : P.underlying e = some (.int .u8)) (hc : P.cellsOf e = 1) (b o cells : Nat) (hsh : w.shape? b = some (e, cells)) {l : List UInt8} (h0 : 0 < l.length) (hn : o + l.length ≤ cells) (h63 : l.length ≤ 1073741824)
    (hl : (loadBytes ⟨b, o, none⟩ .empty l.length).run P w = .ok ⟨l.toArray⟩ w) :
    (Builtin.unsafeString_ #[pt, it] ty #[.pointer (some ⟨b, o, none⟩), .int .i64 l.length]).run P w = .ok (.string ⟨l.toArray⟩) (w.freeze ⟨b, o, none⟩ l.length) := by
  have hmax : IntKind.i64.max = 9223372036854775807 := rfl
  have h63' : ¬ (9223372036854775807 : Int) < (l.length : Int) := by omega
  have hneg : ¬ (l.length : Int) < 0 := by omega
  have hl0 : l.length ≠ 0 := by omega
  have hlies : liesAt P P.depth e cells o pe l.length = true := by
    have hd : P.depth = (2 * (P.types.size + Made.depth) + 1) + 1 := rfl
    rw [hd]
    simp only [liesAt, Bool.or_eq_true]
    left
    rw [hd]
    simp [rowAt, hc, hn, sameLayout, he, hpe, Nat.mod_one]
  have hdef : Builtin.unsafeString_ #[pt, it] ty #[.pointer (some ⟨b, o, none⟩), .int .i64 l.length] =
      (do
        let n ← asInt (.int .i64 l.length)
        if n < 0 then runtimePanic (.error "unsafe.String: len out of range")
        if n > IntKind.i64.max then unsupported (.unsafePointer "String: a length above the largest int")
        if n = 0 then pure (.string .empty)
        else if ← variablesAt ⟨b, o, none⟩ (← elemOf pt) n.toNat then do
          let s ← loadBytes ⟨b, o, none⟩ .empty n.toNat
          freeze ⟨b, o, none⟩ n.toNat
          pure (.string s)
        else unsupported (.unsafePointer "String: not so many bytes at ptr")) := rfl
  rw [hdef]
  simp [asInt, asIntOf, hmax, h63', hneg, hl0, variablesAt, hsh, elemOf, run_underlying hp, hlies, hl, hc]
theorem freeze_heap {b o n : Nat} {ob : Obj} (h : w.heap[b]? = some ob) : ∃ ob', (w.freeze ⟨b, o, none⟩ n).heap[b]? = some ob' ∧ (∀ k, k ≠ b → (w.freeze ⟨b, o, none⟩ n).heap[k]? = w.heap[k]?) ∧
    (w.freeze ⟨b, o, none⟩ n).os = w.os ∧ (w.freeze ⟨b, o, none⟩ n).tape = w.tape ∧ (w.freeze ⟨b, o, none⟩ n).output = w.output ∧ (w.freeze ⟨b, o, none⟩ n).heap.size = w.heap.size := by
  unfold World.freeze
  split
  · exact ⟨ob, h, fun _ _ => rfl, rfl, rfl, rfl, rfl⟩
  · refine ⟨_, by simp only [Array.getElem?_modify, if_true, h]; rfl, fun k hk => ?_, rfl, rfl, rfl, by simp⟩
    simp only [Array.getElem?_modify]
    rw [if_neg (fun e => hk e.symm)]
end Go.Ai

namespace Go.Ai
open Go
variable {P : Program} {ρ : Map} {fr : Fr} {a : Act} {base key : Nat} {s : St} {w : World} {outs : List Out}

/-! ### a new block, a dead one -/
theorem hget_dead (h : Heap) (id : Nat) (i : Nat) : live (hget (hset h id .dead)) i → live (hget h) i ∧ i ≠ id := by
  rintro ⟨x, hx, hd⟩
  rw [hget_upd] at hx
  simp only at hx
  split at hx
  · cases hx; exact hd.elim
  · rename_i hne; exact ⟨⟨x, hx, hd⟩, hne⟩
theorem Stp.dead {h : Heap} (r : RH ρ base (hget h) w) (id : Nat) : Stp ρ base (hget h) w ρ (hget (hset h id .dead)) w := by
  refine ⟨Mono.refl ρ, Keeps.refl _ _, r.sub fun i ab hi hd => ?_, ?_⟩
  · rw [hget_upd] at hi
    simp only at hi
    split at hi
    · cases hi; exact absurd rfl hd
    · exact hi
  · rintro b ⟨i, e, hl, he, hb⟩
    exact .inl ⟨i, e, (hget_dead h id i hl).1, he, hb⟩

/-- a new name for a block that none else names -/
theorem Stp.name {h : Heap} {w' : World} (r : RH ρ base (hget h) w) (hk : ρ key = none) {e : Ent} {blk : AB} {ob : Obj} (hb : base ≤ e.b) (hw : w'.heap[e.b]? = some ob) (ho : ∀ b, b < w.heap.size → b ≠ e.b → w'.heap[b]? = w.heap[b]?)
    (hos : w'.os = w.os) (htp : w'.tape = w.tape) (hou : w'.output = w.output) (hsz : w.heap.size ≤ w'.heap.size)
    (hn : ∀ i e', live (hget h) i → ρ i = some e' → e'.b ≠ e.b) (own : Nat → Prop) (hown : ∀ b, owns ρ (hget h) b → own b) (he : own e.b ∨ w.heap.size ≤ e.b)
    (hrom : NoRom blk) (rb : RB (ext ρ key e) e blk ob) : Mono ρ (ext ρ key e) ∧ Keeps own w w' ∧ RH (ext ρ key e) base (hget (hset h key blk)) w' ∧ (∀ b, owns (ext ρ key e) (hget (hset h key blk)) b → own b ∨ w.heap.size ≤ b) := by
  have hm := ext_mono (e := e) hk
  have hlive : ∀ i, live (hget (hset h key blk)) i → i = key ∨ (i ≠ key ∧ live (hget h) i) := by
    rintro i ⟨x, hx, hd⟩
    rw [hget_upd] at hx
    simp only at hx
    split at hx
    · rename_i heq; exact .inl heq
    · rename_i hne; exact .inr ⟨hne, x, hx, hd⟩
  have hold : ∀ i e', live (hget h) i → ext ρ key e i = some e' → ρ i = some e' := by
    rintro i e' ⟨ab, hg, hd⟩ hi
    obtain ⟨e1, _, h1, _⟩ := r.blk i ab hg hd.nd
    have := hm i e1 h1
    rw [hi] at this; cases this; exact h1
  refine ⟨hm, ⟨hos, htp, hou, hsz, fun b hb' hno => ho b hb' (fun e' => ?_)⟩, ⟨fun i ab hi hd => ?_, fun i j e1 e2 li lj hi hj hbb => ?_⟩, ?_⟩
  · subst e'; rcases he with he | he
    · exact hno he
    · omega
  · rw [hget_upd] at hi
    simp only at hi
    split at hi
    · rename_i heq; subst heq; cases hi
      exact ⟨e, ob, ext_self _ _, .new hb hrom, hw, rb⟩
    · obtain ⟨e', ob', h1, h2, h3, h4⟩ := r.blk i ab hi hd
      have hlt := r.size hi hd h1
      have hne : e'.b ≠ e.b := fun hbb => by
        rcases h2.rom_or hd with m | m
        · exact hn i e' ⟨ab, hi, m⟩ h1 hbb
        · omega
      exact ⟨e', ob', hm _ _ h1, h2, by rw [ho _ hlt hne]; exact h3, h4.mono hm⟩
  · rcases hlive i li with hi' | ⟨_, li'⟩ <;> rcases hlive j lj with hj' | ⟨_, lj'⟩
    · rw [hi', hj']
    · subst hi'
      rw [ext_self] at hi; cases hi
      exact absurd hbb.symm (hn j e2 lj' (hold j e2 lj' hj))
    · subst hj'
      rw [ext_self] at hj; cases hj
      exact absurd hbb (hn i e1 li' (hold i e1 li' hi))
    · exact r.inj i j e1 e2 li' lj' (hold i e1 li' hi) (hold j e2 lj' hj) hbb
  · rintro b ⟨i, e', hl, hi, hbb⟩
    rcases hlive i hl with heq | ⟨_, hl'⟩
    · subst heq; rw [ext_self] at hi; cases hi
      subst hbb
      exact he
    · exact .inl (hown b ⟨i, e', hl', hold i e' hl' hi, hbb⟩)

theorem alloc_heap (w : World) (ob : Obj) : (w.alloc ob).heap[w.heap.size]? = some ob ∧ (∀ b, b < w.heap.size → (w.alloc ob).heap[b]? = w.heap[b]?) ∧ w.heap.size ≤ (w.alloc ob).heap.size := by
  have e : (w.alloc ob).heap = w.heap.push ob := rfl
  rw [e]
  refine ⟨by simp, fun b hb => ?_, by simp⟩
  have hne : b ≠ w.heap.size := by omega
  simp [Array.getElem?_push, hne]

theorem Stp.new {h : Heap} (r : RH ρ base (hget h) w) (hk : ρ key = none) (hb : base ≤ w.heap.size) {k o : Nat} {blk : AB} {ob : Obj} (hrom : NoRom blk) (rb : RB (ext ρ key ⟨w.heap.size, o, k⟩) ⟨w.heap.size, o, k⟩ blk ob) :
    Stp ρ base (hget h) w (ext ρ key ⟨w.heap.size, o, k⟩) (hget (hset h key blk)) (w.alloc ob) := by
  obtain ⟨h1, h2, h3⟩ := alloc_heap w ob
  obtain ⟨g1, g2, g3, g4⟩ := Stp.name r hk (e := ⟨w.heap.size, o, k⟩) hb h1 (fun b hb' _ => h2 b hb') rfl rfl rfl h3 (fun i e' ⟨ab, hg, hd⟩ he => by have := r.size hg hd.nd he; simp only; omega) _ (fun _ h => h) (.inr (Nat.le_refl _)) hrom rb
  exact ⟨g1, g2, g3, g4⟩

/-! ### what is copied -/
theorem bytes_cells (s : List UInt8) (m : Nat) : RVs ρ ((s.map fun b => AV.int .u8 b.toNat).take m) ((s.map fun b => Value.int .u8 (b.toNat : Int)).take m) := by
  refine RVs.take m ?_
  induction s with
  | nil => rfl
  | cons b s ih => exact ⟨_, _, rfl, ih, rfl⟩

theorem srcCells_sound {h : Heap} (rh : RH ρ base (hget h) w) {es : Nat} {b : AV} {n : Nat} {cs : List AV} (hs : srcCells h es b = some (n, cs)) {x : Value} (rx : RV ρ b x) :
    (∀ w' : World, (Builtin.lenOf x).run P w' = .ok n w') ∧ cs.length = n * es ∧ ∃ us, RVs ρ cs us ∧
      ∀ (w' : World), w'.heap = w.heap → ∀ m, m ≤ n → (Builtin.firstCells es m x).run P w' = .ok (us.take (m * es)).toArray w' := by
  unfold srcCells at hs
  split at hs
  · cases hs
    simp only [RV] at rx; subst rx
    exact ⟨fun _ => rfl, by simp, [], rfl, fun w' _ m _ => by simp [Builtin.firstCells]⟩
  · cases hs
    obtain ⟨ad, hx⟩ := rx
    subst hx
    refine ⟨fun _ => rfl, by simp, [], rfl, fun w' hw m hm => ?_⟩
    exact run_firstCells_some (P := P) w' es m _ 0 0 _ (by rw [Nat.le_zero.1 hm]; simp) (fun j u hj => by simp at hj)
  · rename_i id off eo len cap
    split at hs
    · cases hs
      obtain ⟨ad, n', c', hx⟩ := rv_slice_some rx
      obtain ⟨en, hen, rx⟩ := rx
      have hx2 : ∃ o' c2, x = .slice (some ⟨en.b, en.o + o', none⟩) 0 c2 := by
        cases cap with
        | some c => obtain ⟨o', h1, h2, h3⟩ := rx; exact ⟨o', c, h3⟩
        | none => obtain ⟨o', h1, h2, h3⟩ := rx; exact ⟨o', _, h3⟩
      obtain ⟨o', c2, hx2⟩ := hx2
      subst hx2
      refine ⟨fun _ => rfl, by simp, [], rfl, fun w' hw m hm => ?_⟩
      refine run_firstCells_some (P := P) w' es m _ 0 c2 _ (by rw [Nat.le_zero.1 hm]; simp) (fun j u hj => by simp at hj)
    rename_i n1
    split at hs
    · rename_i cs' hcs
      cases hs
      generalize hn1 : Nat.succ n1 = n at *
      obtain ⟨ad, n', c', hx⟩ := rv_slice_some rx
      obtain ⟨en, hen, rx⟩ := rx
      obtain ⟨hl, vs, rs, hcell⟩ := readCells_rv rh hcs hen
      have hx2 : ∃ o' c2, x = .slice (some ⟨en.b, en.o + o', none⟩) n c2 ∧ (0 < n → o' = off) := by
        cases cap with
        | some c => obtain ⟨o', h1, h2, h3⟩ := rx; exact ⟨o', c, h3, fun hp => h2 (by omega)⟩
        | none => obtain ⟨o', h1, h2, h3⟩ := rx; exact ⟨o', _, h3, fun hp => h2 (by omega)⟩
      obtain ⟨o', c2, hx2, ho⟩ := hx2
      subst hx2
      refine ⟨fun _ => rfl, hl, vs, rs, fun w' hw m hm => ?_⟩
      have hlen : vs.length = n * es := by rw [← RVs.length rs, hl]
      refine run_firstCells_some (P := P) w' es m _ n c2 (vs.take (m * es)) (by rw [List.length_take, hlen]; exact Nat.min_eq_left (Nat.mul_le_mul_right _ hm)) (fun j u hj => ?_)
      have hj' : vs[j]? = some u := by
        rw [List.getElem?_take] at hj
        split at hj
        · exact hj
        · cases hj
      have hjl : j < vs.length := (List.getElem?_eq_some_iff.1 hj').1
      have hn0 : 0 < n := by
        rcases Nat.eq_zero_or_pos n with h0 | h0
        · subst h0; simp at hlen; simp [hlen] at hjl
        · exact h0
      have := ho hn0
      subst this
      have hc := hcell j u hj'
      simp only [World.cell?, hw] at hc ⊢
      exact hc
    · cases hs
  · rename_i s
    split at hs
    · rename_i he
      have he := Nat.eq_of_beq_eq_true he
      subst he
      cases hs
      simp only [RV] at rx; subst rx
      refine ⟨fun w' => by simp [Builtin.lenOf, ByteArray.size], by simp, s.map fun b => Value.int .u8 (b.toNat : Int), ?_, fun w' _ m hm => ?_⟩
      · have := bytes_cells (ρ := ρ) s s.length
        simpa [List.take_of_length_le] using this
      · simp only [Builtin.firstCells, Sem.run_pure, Nat.mul_one]
        congr 1
        apply Array.ext'
        simp [List.map_take]
    · cases hs
  · cases hs

section
variable {dst : Option Tmp} {c : Call} {ty : TypeId} {pos : String} {after : Array Edge} {gd : Option (Nat × Bool)}

theorem exec_builtin {b : Builtin} (hb : c.callee = .builtin b) : execOp a.eval ⟨dst, .call c, ty, pos, after, gd⟩ = builtin b c.argTypes ty (c.args.map fun | .const _ => true | _ => false) (c.args.map a.eval) :=
  run_builtin_len hb a.eval ty

theorem arg_of {l : List Operand} (h : c.args.toList = l) (i : Nat) : (c.args.map a.eval)[i]? = (l[i]?).map a.eval := by
  rw [← h]; simp
theorem typ_of {l : List TypeId} (h : c.argTypes.toList = l) (i : Nat) : c.argTypes[i]? = l[i]? := by
  rw [← h]; simp

theorem delK_spec {t : TypeId} {k : AV} {es es' : MEs} (h : delK P t k es = some es') : keyOk P t k = true ∧ ((findK P t k es 0 = some none ∧ es' = es) ∨ ∃ i x, findK P t k es 0 = some (some (i, x)) ∧ es' = dropAt es i) := by
  unfold delK at h
  split at h
  · rename_i hk
    refine ⟨hk, ?_⟩
    unfold delK2 at h
    split at h
    · rename_i hf; cases h; exact .inl ⟨hf, rfl⟩
    · rename_i i k' v b hf
      simp only [listC_eq, Option.some.injEq] at h
      exact .inr ⟨i, _, hf, h.symm⟩
    · cases h
  · cases h

theorem AO.builtin {b : Builtin} (hb : c.callee = .builtin b) {S : Sem Value} (hS : builtin b c.argTypes ty (c.args.map fun | .const _ => true | _ => false) (c.args.map a.eval) = (do pure (.value (← S)))) {w' : World} {s' : St} {v : AV} {u : Value}
    (hr : S.run P w = .ok u w') (hs : Stp ρ base (hget s.h) w ρ (hget s'.h) w') (hfc : s'.fc = s.fc) (ru : RV ρ v u) :
    Some1 P ρ base key s w ((execOp a.eval ⟨dst, .call c, ty, pos, after, gd⟩).run P w) [.val v s'] := by
  rw [exec_builtin hb, hS]
  exact .one (AO.value hr hs hfc ru)

theorem rv_unit : RV ρ .undef (.tuple #[]) := ⟨[], rfl, rfl⟩

theorem a_delete (hb : c.callee = .builtin .delete) (rh : RH ρ base (hget s.h) w) (r : RF ρ fr a) (h : aDl P fr s c.argTypes.toList c.args.toList = some outs) :
    Some1 P ρ base key s w ((execOp a.eval ⟨dst, .call c, ty, pos, after, gd⟩).run P w) outs := by
  unfold aDl at h
  split at h
  · rename_i t l x y ht hxy
    have e0 := typ_of ht 0
    have e1 := arg_of (a := a) hxy 0
    have e2 := arg_of (a := a) hxy 1
    simp only [List.getElem?_cons_zero, List.getElem?_cons_succ, Option.map_some] at e0 e1 e2
    unfold aDl1 at h
    split at h
    · rename_i kt et id kk hd hm hk
      unfold aDl2 at h
      split at h
      · rename_i es clock hg
        unfold aES3 at h
        split at h
        · rename_i es' hs
          cases h
          obtain ⟨e, he, hx⟩ := r.ev hm
          obtain ⟨ents, hbk, re⟩ := rh.map hg he
          obtain ⟨hko, hc⟩ := delK_spec hs
          obtain ⟨dk, hdk⟩ := keyOk_und hko
          have rk := r.ev hk
          obtain ⟨u1, u2⟩ := upd_h s id (.map es' clock)
          rcases hc with ⟨hf, rfl⟩ | ⟨i, q, hf, rfl⟩
          · obtain ⟨o', f1, f2⟩ := findKey_sound hdk rk w hf re
            simp only [Found] at f2; subst f2
            obtain ⟨w', hr, hst⟩ := Stp.map (P := P) rh hg he (clock' := clock) (es' := es') (ents' := ents) re
            refine AO.builtin hb rfl (w' := w') (u := .tuple #[]) ?_ (by rw [u1]; exact hst) u2 rv_unit
            simp only [Builtin.delete_, e0, e1, e2, Sem.run_bind, run_und hd, Result.andThen_ok, hx, run_getObj hbk (by simp), check_sound hko rk, f1, hr, Sem.run_pure]
          · obtain ⟨o', f1, f2⟩ := findKey_sound hdk rk w hf re
            obtain ⟨q1, q2, q3⟩ := q
            obtain ⟨k'', v'', rfl, _, _, _, hl⟩ := f2
            have hl' : ents.toList[i]? = some ⟨k'', v'', q3⟩ := by simpa using hl
            have hlt : i < ents.size := by have := (List.getElem?_eq_some_iff.1 hl').1; simpa using this
            have her : (ents.eraseIdxIfInBounds i).toList = ents.toList.eraseIdx i := by simp [Array.eraseIdxIfInBounds, hlt]
            obtain ⟨w', hr, hst⟩ := Stp.map (P := P) rh hg he (clock' := clock) (es' := dropAt es i) (ents' := ents.eraseIdxIfInBounds i) (by rw [her]; exact RE_drop re)
            refine AO.builtin hb rfl (w' := w') (u := .tuple #[]) ?_ (by rw [u1]; exact hst) u2 rv_unit
            simp only [Builtin.delete_, e0, e1, e2, Sem.run_bind, run_und hd, Result.andThen_ok, hx, run_getObj hbk (by simp), check_sound hko rk, f1, hr, Sem.run_pure]
        · cases h
      · cases h
    · cases h
  · cases h

theorem writes_slice {id off eo len : Nat} {cap : Option Nat} {x : Value} (rx : RV ρ (.slice id off eo len cap) x) : ∃ e o' cc, ρ id = some e ∧ x = .slice (some ⟨e.b, e.o + o', none⟩) len cc ∧ (0 < len → o' = off) := by
  obtain ⟨en, hen, rx⟩ := rx
  cases cap with
  | some c => obtain ⟨o', h1, h2, h3⟩ := rx; exact ⟨en, o', c, hen, h3, fun hp => h2 (by omega)⟩
  | none => obtain ⟨o', h1, h2, h3⟩ := rx; exact ⟨en, o', _, hen, h3, fun hp => h2 (by omega)⟩

theorem storeCells_nil (ad : Addr) (w : World) : (storeCells ad []).run P w = .ok () w := rfl

/-- cells written at a slice's start -/
theorem Stp.writeS {h h' : Heap} (r : RH ρ base (hget h) w) {id off eo len : Nat} {cap : Option Nat} {vs : List AV} (hw : writeCells h id off vs = some h') (hv : 0 < vs.length → 0 < len) {x : Value} (rx : RV ρ (.slice id off eo len cap) x) {us : List Value} (ru : RVs ρ vs us) :
    ∃ ad cc w', x = .slice (some ad) len cc ∧ (storeCells ad us).run P w = .ok () w' ∧ Stp ρ base (hget h) w ρ (hget h') w' := by
  obtain ⟨e, o', cc, he, rfl, ho⟩ := writes_slice rx
  obtain ⟨w', h1, h2⟩ := Stp.write (P := P) r hw he ru
  rcases Nat.eq_zero_or_pos vs.length with h0 | h0
  · have : us = [] := List.length_eq_zero_iff.1 (by rw [← RVs.length ru]; exact h0)
    subst this
    have : w' = w := by rw [storeCells_nil] at h1; cases h1; rfl
    subst this
    exact ⟨_, cc, w', rfl, storeCells_nil _ _, h2⟩
  · have := ho (hv h0)
    subst this
    exact ⟨_, cc, w', rfl, h1, h2⟩

theorem a_copy (hb : c.callee = .builtin .copy) (rh : RH ρ base (hget s.h) w) (r : RF ρ fr a) (h : aCp P fr s c.argTypes.toList c.args.toList = some outs) :
    Some1 P ρ base key s w ((execOp a.eval ⟨dst, .call c, ty, pos, after, gd⟩).run P w) outs := by
  unfold aCp at h
  split at h
  · rename_i t l x y ht hxy
    have e0 := typ_of ht 0
    have e1 := arg_of (a := a) hxy 0
    have e2 := arg_of (a := a) hxy 1
    simp only [List.getElem?_cons_zero, List.getElem?_cons_succ, Option.map_some] at e0 e1 e2
    unfold aCp2 at h
    split at h
    · rename_i e id off eo len cap b hd hx hy
      split at h
      · rename_i es hes
        unfold aCp3 at h
        split at h
        · rename_i n cs hsrc
          obtain ⟨s', ho, rfl⟩ := oneOut_spec h
          obtain ⟨h', hw, rfl⟩ := upH_spec ho
          obtain ⟨g1, g2, us, g3, g4⟩ := srcCells_sound (P := P) rh hsrc (r.ev hy)
          have hlen : (cs.take (Nat.min n len * es)).length = Nat.min n len * es := by rw [List.length_take, g2]; exact Nat.min_eq_left (Nat.mul_le_mul_right _ (Nat.min_le_left _ _))
          obtain ⟨ad, cc, w', hax, hst, hstp⟩ := Stp.writeS (P := P) rh hw (fun hp => by
            rw [hlen] at hp
            rcases Nat.eq_zero_or_pos len with h0 | h0
            · subst h0; simp at hp
            · exact h0) (r.ev hx) (RVs.take (Nat.min n len * es) g3)
          refine AO.builtin hb rfl (w' := w') (u := goInt (Nat.min n len)) ?_ hstp rfl rfl
          simp only [Builtin.copy_, e0, e1, e2, Sem.run_bind, run_und hd, Result.andThen_ok, hax, g1, run_sizeT hes, g4 w rfl _ (Nat.min_le_left n len), hst, Sem.run_pure]
        · cases h
      · cases h
    · rename_i e b hd hx hy
      split at h
      · rename_i es hes
        unfold aCp0 at h
        split at h
        · rename_i q hsrc
          cases h
          obtain ⟨n, cs⟩ := q
          obtain ⟨g1, g2, us, g3, g4⟩ := srcCells_sound (P := P) rh hsrc (r.ev hy)
          have hax := r.ev hx
          simp only [RV] at hax
          refine AO.builtin hb rfl (w' := w) (u := goInt 0) ?_ (Stp.same rh) rfl rfl
          have hm : Nat.min n 0 = 0 := by simp
          simp only [Builtin.copy_, e0, e1, e2, Sem.run_bind, run_und hd, Result.andThen_ok, hax, g1, run_sizeT hes, hm, g4 w rfl 0 (Nat.zero_le _), Sem.run_pure]
          rfl
        · cases h
      · cases h
    · rename_i e b hd hx hy
      split at h
      · rename_i es hes
        unfold aCp0 at h
        split at h
        · rename_i q hsrc
          cases h
          obtain ⟨n, cs⟩ := q
          obtain ⟨g1, g2, us, g3, g4⟩ := srcCells_sound (P := P) rh hsrc (r.ev hy)
          obtain ⟨ad, hax⟩ := r.ev hx
          refine AO.builtin hb rfl (w' := w) (u := goInt 0) ?_ (Stp.same rh) rfl rfl
          have hm : Nat.min n 0 = 0 := by simp
          simp only [Builtin.copy_, e0, e1, e2, Sem.run_bind, run_und hd, Result.andThen_ok, hax, g1, run_sizeT hes, hm, g4 w rfl 0 (Nat.zero_le _), Sem.run_pure, Nat.zero_mul, List.take_zero]
          rfl
        · cases h
      · cases h
    · cases h
  · cases h

theorem a_clear (hb : c.callee = .builtin .clear) (rh : RH ρ base (hget s.h) w) (r : RF ρ fr a) (h : aCl P fr s c.argTypes.toList c.args.toList = some outs) :
    Some1 P ρ base key s w ((execOp a.eval ⟨dst, .call c, ty, pos, after, gd⟩).run P w) outs := by
  unfold aCl at h
  split at h
  · rename_i t l x ht hxy
    have e0 := typ_of ht 0
    have e1 := arg_of (a := a) hxy 0
    simp only [List.getElem?_cons_zero, Option.map_some] at e0 e1
    unfold aCl2 at h
    split at h
    · rename_i e id off eo len cap hd hx
      unfold aCl3 at h
      split at h
      · rename_i z n hz hn
        split at h
        · rename_i hzn
          have hzn := Nat.eq_of_beq_eq_true hzn
          obtain ⟨s', ho, rfl⟩ := oneOut_spec h
          obtain ⟨h', hw, rfl⟩ := upH_spec ho
          obtain ⟨zu, hzu, _, rz⟩ := zero_rv (ρ := ρ) hz
          have rr := repl_rv rz len
          obtain ⟨ad, cc, w', hax, hst, hstp⟩ := Stp.writeS (P := P) rh hw (fun hp => by
            rw [repl_length] at hp
            exact Nat.pos_of_mul_pos_right hp) (r.ev hx) rr
          refine AO.builtin hb rfl (w' := w') (u := .tuple #[]) ?_ hstp rfl rv_unit
          have hz0 : (Builtin.zeroCells zu.cells len).toList = repl zu.cells.toList len := by
            unfold Builtin.zeroCells
            rw [zero_fill zu.cells len zu.cells.size rfl]
          simp only [Builtin.clear_, e0, e1, Sem.run_bind, run_und hd, Result.andThen_ok, hax]
          cases len with
          | zero =>
            have : w' = w := by
              have hst' := hst
              simp only [repl] at hst'
              rw [storeCells_nil] at hst'; cases hst'; rfl
            subst this
            rfl
          | succ len =>
            simp only [Sem.run_bind, hzu, Result.andThen_ok, hz0, hst, Sem.run_pure]
        · cases h
      · cases h
    · cases h
  · cases h

theorem evs_of {l : List AV} {xs : List Operand} (r : RF ρ fr a) (h : evs fr xs = some l) : RVs ρ l (xs.map a.eval) := r.evs h

theorem a_max (hb : c.callee = .builtin .max) (rh : RH ρ base (hget s.h) w) (r : RF ρ fr a) (h : aMx s (evs fr c.args.toList) = some outs) :
    Some1 P ρ base key s w ((execOp a.eval ⟨dst, .call c, ty, pos, after, gd⟩).run P w) outs := by
  unfold aMx at h
  split at h
  · rename_i k x k' y he
    split at h
    · rename_i hk
      cases h
      obtain ⟨u1, us1, r1, ⟨u2, us2, r2, r3, e2⟩, e1⟩ := evs_of r he
      simp only [RV] at r1 r2
      simp only [RVs] at r3
      subst r1 r2 r3 e2
      have hk := of_decide_eq_true hk
      subst hk
      refine AO.builtin hb rfl (w' := w) (u := .int k (if y > x then y else x)) ?_ (Stp.same rh) rfl ?_
      · have : (c.args.map a.eval).toList = [.int k x, .int k y] := by rw [Array.toList_map]; exact e1
        simp only [Builtin.max_, this, List.foldlM_cons, List.foldlM_nil, Builtin.max2, Sem.run_bind, Sem.run_pure, Result.andThen_ok]
      · by_cases hxy : x < y
        · simp [ltInt, hxy, RV]
        · simp [ltInt, hxy, RV]
    · cases h
  · cases h
theorem a_usd (hb : c.callee = .builtin .unsafeSliceData) (rh : RH ρ base (hget s.h) w) (r : RF ρ fr a) (h : aUSD s (evs fr c.args.toList) = some outs) :
    Some1 P ρ base key s w ((execOp a.eval ⟨dst, .call c, ty, pos, after, gd⟩).run P w) outs := by
  unfold aUSD at h
  split at h
  · rename_i he
    cases h
    obtain ⟨u1, us1, r1, r2, e1⟩ := evs_of r he
    simp only [RV] at r1
    simp only [RVs] at r2
    subst r1 r2
    have ha : c.args.map a.eval = #[.slice none 0 0] := by apply Array.toList_inj.1; rw [Array.toList_map]; exact e1
    refine AO.builtin hb rfl (w' := w) (u := .pointer none) ?_ (Stp.same rh) rfl rfl
    rw [ha]; rfl
  · rename_i id off eo len cap he
    split at h
    · rename_i hl
      cases h
      have hl : 0 < len := by simpa using hl
      obtain ⟨u1, us1, r1, r2, e1⟩ := evs_of r he
      simp only [RVs] at r2
      subst r2
      have ha : c.args.map a.eval = #[u1] := by apply Array.toList_inj.1; rw [Array.toList_map]; exact e1
      obtain ⟨e, hen, rx⟩ := r1
      have hx : ∃ k, u1 = .slice (some ⟨e.b, e.o + off, none⟩) len (k + 1) := by
        cases cap with
        | some cp =>
          obtain ⟨o', h1, h2, h3⟩ := rx
          have := h2 (by omega)
          subst this
          exact ⟨cp - 1, by rw [h3]; congr 1; omega⟩
        | none =>
          obtain ⟨o', h1, h2, h3⟩ := rx
          have := h2 (by omega)
          subst this
          exact ⟨e.k - eo - 1, by rw [h3]; congr 1; omega⟩
      obtain ⟨k, hx⟩ := hx
      refine AO.builtin hb rfl (w' := w) (u := .pointer (some ⟨e.b, e.o + off, none⟩)) ?_ (Stp.same rh) rfl ⟨e, hen, rfl⟩
      rw [ha, hx]; rfl
    · cases h
  · cases h
theorem a_us (hb : c.callee = .builtin .unsafeString) (rh : RH ρ base (hget s.h) w) (r : RF ρ fr a) (h : aUS P s c.argTypes.toList (evs fr c.args.toList) = some outs) :
    Some1 P ρ base key s w ((execOp a.eval ⟨dst, .call c, ty, pos, after, gd⟩).run P w) outs := by
  unfold aUS at h
  split at h
  · rename_i t1 t2 ht he
    cases h
    obtain ⟨u1, us1, r1, ⟨u2, us2, r2, r3, e2⟩, e1⟩ := evs_of r he
    simp only [RV] at r1 r2
    simp only [RVs] at r3
    subst r1 r2 r3 e2
    have ha : c.args.map a.eval = #[.pointer none, .int .i64 0] := by apply Array.toList_inj.1; rw [Array.toList_map]; exact e1
    have hts : c.argTypes = #[t1, t2] := by apply Array.toList_inj.1; exact ht
    refine AO.builtin hb rfl (w' := w) (u := .string .empty) ?_ (Stp.same rh) rfl rfl
    rw [ha, hts]
    rfl
  · rename_i t1 t2 id off n ht he
    unfold aUS1 at h
    split at h
    · rename_i pe hpt
      unfold aUS2 at h
      split at h
      · rename_i cs m es t hg
        split at h
        · rename_i hte hpe hsz hle
          unfold aUS3 at h
          split at h
          · rename_i cl hcl
            unfold aUS4 at h
            split at h
            · rename_i l hl
              cases h
              obtain ⟨u1, us1, r1, ⟨u2, us2, r2, r3, e2⟩, e1⟩ := evs_of r he
              simp only [RV] at r2
              simp only [RVs] at r3
              subst r2 r3 e2
              obtain ⟨e, hen, rx⟩ := r1
              subst rx
              have ha : c.args.map a.eval = #[.pointer (some ⟨e.b, e.o + off, none⟩), .int .i64 ((n + 1 : Nat) : Int)] := by apply Array.toList_inj.1; rw [Array.toList_map]; exact e1
              have hts : c.argTypes = #[t1, t2] := by apply Array.toList_inj.1; exact ht
              obtain ⟨e', ob, k1, k2, k3, cc, ty', lo, hi, k4, kt, k5, k6, k7, k8, k9⟩ := rh.blk id _ hg (by simp)
              rw [hen] at k1; cases k1
              have hty := (kt t rfl).1
              subst hty k4
              have hln := bsA_len hl
              obtain ⟨hcn, vs, rvs, hvs⟩ := readCells_rv rh hcl hen
              have hload := load_bytesA (P := P) (w := w) ⟨e.b, e.o + off, none⟩ .empty rfl rvs hl hvs
              have hrd : off + (n + 1) ≤ m := by
                unfold readCells at hcl
                rw [hg] at hcl
                simp only at hcl
                split at hcl
                · rename_i hb2; simpa using hb2
                · cases hcl
              have hle' : n + 1 ≤ 1073741824 := by simpa using hle
              have hrun := run_usA (P := P) (w := w) t1 t2 ty pe ty' hpt hpe hte (cellsOf_sizeT hsz) e.b (e.o + off) cc.size (by unfold World.shape?; rw [k3]) (l := l) (by omega) (by omega) (by omega) (by simpa using hload)
              obtain ⟨ob', f1, f2, f3, f4, f5, f6⟩ := freeze_heap (w := w) (o := e.o + off) (n := l.length) k3
              have hst := Stp.upd rh hg (by simp [Mine]) (ab' := .dead) (by simp) hen f3 f4 f5 f6 f1 f2 trivial
              simp only [St.upd_eq]
              refine AO.builtin hb rfl (w' := w.freeze ⟨e.b, e.o + off, none⟩ l.length) (u := .string ⟨l.toArray⟩) ?_ hst rfl rfl
              rw [ha, hts, show n + 1 = l.length by omega]
              exact hrun
            · cases h
          · cases h
        · cases h
      · cases h
    · cases h
  · cases h
theorem a_min (hb : c.callee = .builtin .min) (rh : RH ρ base (hget s.h) w) (r : RF ρ fr a) (h : aMn s (evs fr c.args.toList) = some outs) :
    Some1 P ρ base key s w ((execOp a.eval ⟨dst, .call c, ty, pos, after, gd⟩).run P w) outs := by
  unfold aMn at h
  split at h
  · rename_i k x k' y he
    split at h
    · rename_i hk
      cases h
      obtain ⟨u1, us1, r1, ⟨u2, us2, r2, r3, e2⟩, e1⟩ := evs_of r he
      simp only [RV] at r1 r2
      simp only [RVs] at r3
      subst r1 r2 r3 e2
      have hk := of_decide_eq_true hk
      subst hk
      refine AO.builtin hb rfl (w' := w) (u := .int k (if y < x then y else x)) ?_ (Stp.same rh) rfl ?_
      · have : (c.args.map a.eval).toList = [.int k x, .int k y] := by rw [Array.toList_map]; exact e1
        simp only [Builtin.min_, this, List.foldlM_cons, List.foldlM_nil, Builtin.min2, Sem.run_bind, Sem.run_pure, Result.andThen_ok]
      · by_cases hxy : y < x
        · simp [ltInt, hxy, RV]
        · simp [ltInt, hxy, RV]
    · cases h
  · cases h
end
end Go.Ai

namespace Go.Ai
open Go
variable {P : Program} {ρ : Map} {fr : Fr} {a : Act} {base key : Nat} {s : St} {w : World} {outs : List Out}

theorem growBy_le (need : Nat) : ∀ (r c : Nat), c ≤ 2 * need + 1024 → Builtin.growBy need r c ≤ 2 * need + 1024
  | 0, c, h => h
  | r + 1, c, h => by
    unfold Builtin.growBy
    split
    · exact h
    · exact growBy_le need r _ (by omega)
theorem nsc_le {need old : Nat} (h : old < need) : Builtin.nextslicecap need old ≤ 2 * need + 1024 := by
  unfold Builtin.nextslicecap
  split
  · omega
  · split
    · omega
    · exact growBy_le need 4 old (by omega)

structure AppT (P : Program) (t t2 e : TypeId) (es by' : Nat) (zu : Value) : Prop where
  und : P.underlying t = some (.slice e)
  two : ∃ d, P.underlying t2 = some d ∧ ∀ k, d ≠ .int k
  size : sizeT P e = some es
  info : ∃ i, P.info? e = some i ∧ i.bytes = by'
  zero : ∀ w, (zeroValue e).run P w = .ok zu w
  cells : zu.cells.size = es
  pos : 0 < es
  bytes : 0 < by'

section
variable {t t2 e ty : TypeId} {es by' n sLen sCap : Nat} {zu x : Value} {ats : Array TypeId} {args : Array Value} {bs : Option Addr}

theorem append_room (h : AppT P t t2 e es by' zu) (a0 : ats[0]? = some t) (a1 : ats[1]? = some t2) (b0 : args[0]? = some (.slice bs sLen sCap)) (b1 : args[1]? = some x)
    (hn : ∀ w, (Builtin.lenOf x).run P w = .ok n w) {news : List Value} (hf : (Builtin.firstCells es n x).run P w = .ok news.toArray w) (hfit : sLen + n ≤ sCap) {w' : World}
    (hst : match bs with | some b => (storeCells (b.add (sLen * es)) news).run P w = .ok () w' | none => w' = w) :
    (Builtin.append_ ats ty args).run P w = .ok (.slice bs (sLen + n) sCap) w' := by
  obtain ⟨d, hd, hnd⟩ := h.two
  simp only [Builtin.append_, a0, a1, b0, b1, Sem.run_bind, run_und h.und, Result.andThen_ok, run_sizeT h.size, run_und hd, Sem.run_pure, Bool.false_eq_true, if_false, hn, hfit, if_true, hf, Bool.not_false]
  cases bs with
  | some b => simp only [Sem.run_bind, hst, Result.andThen_ok, Sem.run_pure]
  | none => simp only [Sem.run_pure, hst]

theorem append_grow (h : AppT P t t2 e es by' zu) (a0 : ats[0]? = some t) (a1 : ats[1]? = some t2) (b0 : args[0]? = some (.slice bs sLen sCap)) (b1 : args[1]? = some x)
    (hn : ∀ w, (Builtin.lenOf x).run P w = .ok n w) {olds news : List Value} (ho : (Builtin.firstCells es sLen (.slice bs sLen sCap)).run P w.drew = .ok olds.toArray w.drew) (hf : (Builtin.firstCells es n x).run P w.drew = .ok news.toArray w.drew)
    (hfit : ¬ sLen + n ≤ sCap) (hb : (2 * (sLen + n) + 1024) * by' ≤ 281474976710656) :
    (Builtin.append_ ats ty args).run P w = .ok (.slice (some ⟨w.heap.size, 0, none⟩) (sLen + n) (grownCap w (sLen + n) sCap e))
      (w.drew.alloc (.cells (olds.toArray ++ news.toArray ++ Builtin.zeroCells zu.cells (grownCap w (sLen + n) sCap e - (sLen + n))) e)) := by
  obtain ⟨d, hd, hnd⟩ := h.two
  obtain ⟨i, hi, hib⟩ := h.info
  subst hib
  have hnsc := Nat.le_trans (Nat.mul_le_mul_right i.bytes (nsc_le (need := sLen + n) (old := sCap) (by omega))) hb
  have hbp := h.bytes
  have hneed : (2 * (sLen + n) + 1024) ≤ (2 * (sLen + n) + 1024) * i.bytes := Nat.le_mul_of_pos_right _ hbp
  have h48 : ¬ (Builtin.nextslicecap (sLen + n) sCap * i.bytes > 2 ^ 48) := by omega
  have h63 : ¬ (((sLen + n : Nat) : Int) > IntKind.i64.max ∧ (False ∨ i.bytes = 0)) := by
    rintro ⟨_, h | h⟩
    · exact h
    · omega
  have hq : (Question.appendCap (sLen + n) sCap e).forced = false := rfl
  simp only [Builtin.append_, a0, a1, b0, b1, Sem.run_bind, run_und h.und, Result.andThen_ok, run_sizeT h.size, run_und hd, Sem.run_pure, Bool.false_eq_true, if_false, hn, hfit, if_true, run_typeInfo' hi, h63, h48,
    Bool.not_false, run_choose_drew, hq, run_askRoom, ho, hf, h.zero, run_newRow, grownCap]
  rfl
end
theorem grownCap_le (w : World) (need old : Nat) (e : TypeId) : need ≤ grownCap w need old e := by unfold grownCap Question.cut; simp

/-- the row that 'append' makes -/
theorem row_app {key : Nat} {olds news : List AV} {ou nu : List Value} {es len n cap : Nat} {b : Nat} {zu : Value} {e : TypeId} (ro : RVs ρ olds ou) (rn : RVs ρ news nu) (ho : olds.length = len * es) (hn : news.length = n * es) (hz : zu.cells.size = es)
    (hc : len + n ≤ cap) (hk : ρ key = none) {tg : Nat} (htg : ∀ u, tg = u + 1 → e = u) :
    RB (ext ρ key ⟨b, 0, cap⟩) ⟨b, 0, cap⟩ (rowT tg (olds ++ news) es) (.cells (ou.toArray ++ nu.toArray ++ Builtin.zeroCells zu.cells (cap - (len + n))) e) := by
  have hsz : (Builtin.zeroCells zu.cells (cap - (len + n))).toList.length = (cap - (len + n)) * es := by simp [Builtin.zeroCells, hz]
  have hl1 := RVs.length ro
  have hl2 := RVs.length rn
  have e1 : (ou ++ nu).length = (len + n) * es := by rw [List.length_append, ← hl1, ← hl2, ho, hn, Nat.add_mul]
  have := rowT_rb (tg := tg) (ρ := ext ρ key ⟨b, 0, cap⟩) (e := ⟨b, 0, cap⟩) (es := es) (ty := e) (lo := 0) (hi := 0) (tail := (Builtin.zeroCells zu.cells (cap - (len + n))).toList) htg (RVs.mono (ext_mono hk) _ _ (RVs.append ro rn)) rfl
    (by rw [e1, hsz, ← Nat.add_mul]; exact Nat.mul_le_mul_right _ (by simp only; omega)) (fun _ => by rw [RVs.length (RVs.append ro rn), e1]; exact Nat.mul_le_mul_right _ hc) (by simp) (fun h0 => List.length_eq_zero_iff.1 (by rw [hsz, h0, Nat.mul_zero]))
  have e2 : (ou ++ nu ++ (Builtin.zeroCells zu.cells (cap - (len + n))).toList).toArray = ou.toArray ++ nu.toArray ++ Builtin.zeroCells zu.cells (cap - (len + n)) := by
    apply Array.toList_inj.1; simp
  rwa [e2] at this

theorem zeroOk_spec {e : TypeId} {es by' : Nat} (h : zeroOk P e es by' = true) : ∃ z, zeroT P e = some z ∧ z.cells.length = es ∧ 0 < es ∧ 0 < by' := by
  unfold zeroOk at h
  split at h
  · rename_i z hz
    simp only [Bool.and_eq_true, Nat.blt_eq] at h
    exact ⟨z, hz, Nat.eq_of_beq_eq_true h.1.1, h.1.2, h.2⟩
  · cases h

theorem bytesT_spec {e : TypeId} {b : Nat} (h : bytesT P e = some b) : ∃ i, P.info? e = some i ∧ i.bytes = b := by
  unfold bytesT at h
  cases hi : P.info? e with
  | none => rw [hi] at h; cases h
  | some i => rw [hi] at h; simp at h; exact ⟨i, rfl, h⟩

section
variable {dst : Option Tmp} {c : Call} {ty : TypeId} {pos : String} {after : Array Edge} {gd : Option (Nat × Bool)}

/-- a new row by append -/
theorem app_new {t t2 e : TypeId} {es by' n len sCap : Nat} {zu x : Value} {bs : Option Addr} (hT : AppT P t t2 e es by' zu) (hb : c.callee = .builtin .append) (hk : ρ key = none) (hbase : base ≤ w.heap.size)
    (a0 : c.argTypes[0]? = some t) (a1 : c.argTypes[1]? = some t2) (b0 : (c.args.map a.eval)[0]? = some (.slice bs len sCap)) (b1 : (c.args.map a.eval)[1]? = some x)
    (hn : ∀ w, (Builtin.lenOf x).run P w = .ok n w) {olds news : List AV} {ou nu : List Value} (ro : RVs ρ olds ou) (rn : RVs ρ news nu) (lo : olds.length = len * es) (ln : news.length = n * es)
    (ho : (Builtin.firstCells es len (.slice bs len sCap)).run P w.drew = .ok ou.toArray w.drew) (hf : (Builtin.firstCells es n x).run P w.drew = .ok nu.toArray w.drew)
    (hfit : ¬ len + n ≤ sCap) (h48 : (2 * (len + n) + 1024) * by' ≤ 281474976710656) {h1 : Heap} (hs1 : Stp ρ base (hget s.h) w ρ (hget h1) w) {tg : Nat} (htg : ∀ u, tg = u + 1 → e = u) :
    Some1 P ρ base key s w ((execOp a.eval ⟨dst, .call c, ty, pos, after, gd⟩).run P w) [.val (.slice key 0 0 (len + n) none) ⟨hset h1 key (rowT tg (olds ++ news) es), s.fc⟩] := by
  have hrun := append_grow (ty := ty) hT a0 a1 b0 b1 hn ho hf hfit h48
  have hcap := grownCap_le w (len + n) sCap e
  rw [exec_builtin hb]
  have hstp := Stp.new (key := key) (base := base) (h := h1) (w := w.drew) (k := grownCap w (len + n) sCap e) (o := 0) (Stp.draw hs1.rh).rh hk hbase (rowT_norom _ _ _)
    (row_app (key := key) (b := w.drew.heap.size) (e := e) ro rn lo ln hT.cells hcap hk htg)
  have hall := (hs1.trans (Stp.draw hs1.rh)).trans hstp
  refine .one ⟨_, _, hall, fun i hi => by simp [ext, hi], rfl, .inl ⟨.slice (some ⟨w.heap.size, 0, none⟩) (len + n) (grownCap w (len + n) sCap e), ?_, ⟨_, ext_self _ _, 0, by simpa using hcap, fun _ => rfl, rfl⟩⟩⟩
  simp only [builtin, Sem.run_bind, hrun, Result.andThen_ok, Sem.run_pure]
end

section
variable {dst : Option Tmp} {c : Call} {ty : TypeId} {pos : String} {after : Array Edge} {gd : Option (Nat × Bool)}
theorem wrap_small {n : Nat} (h : n ≤ 281474976710656) : IntKind.i64.wrap (n : Int) = n := by
  have : inI64 (n : Int) = true := by show Nat.blt n 9223372036854775808 = true; rw [Nat.blt_eq]; omega
  exact wrap_in this
/-- so many zero elements behind nothing: the memory is as it was, or holds a new row -/
theorem append_zeros {t t2 e : TypeId} {es n : Nat} {k : IntKind} {zu : Value} {ats : Array TypeId} {args : Array Value} {i : TypeInfo} (hu : P.underlying t = some (.slice e)) (h2 : P.underlying t2 = some (.int k)) (hs : sizeT P e = some es) (hi : P.info? e = some i)
    (hz : ∀ w, (zeroValue e).run P w = .ok zu w) (hpos : 0 < es) (hbp : 0 < i.bytes)
    (a0 : ats[0]? = some t) (a1 : ats[1]? = some t2) (b0 : args[0]? = some (.slice none 0 0)) (b1 : args[1]? = some (.int .i64 (n : Int))) (h48 : (2 * n + 1024) * i.bytes ≤ 281474976710656) (hn : 0 < n) :
    (Builtin.append_ ats ty args).run P w = .ok (.slice (some ⟨w.heap.size, 0, none⟩) n (grownCap w n 0 e))
      (w.drew.alloc (.cells (#[] ++ Builtin.zeroCells zu.cells n ++ Builtin.zeroCells zu.cells (grownCap w n 0 e - n)) e)) := by
  have hnb : n ≤ 281474976710656 := by
    have : 2 * n + 1024 ≤ (2 * n + 1024) * i.bytes := Nat.le_mul_of_pos_right _ hbp
    omega
  have hw := wrap_small hnb
  have hnsc := Nat.le_trans (Nat.mul_le_mul_right i.bytes (nsc_le (need := n) (old := 0) hn)) h48
  have hl0 : ¬ ((n : Int) < 0) := by omega
  have hnn : n * i.bytes ≤ (2 * n + 1024) * i.bytes := Nat.mul_le_mul_right _ (by omega)
  have hl1 : ¬ ((n : Int) * (i.bytes : Int) > 281474976710656) := by
    have : ((n : Int) * (i.bytes : Int)) = ((n * i.bytes : Nat) : Int) := by simp
    rw [this]; omega
  have hne : ¬ n * es = 0 := by
    intro e0
    have := Nat.mul_pos hn hpos
    omega
  have hfit : ¬ n ≤ 0 := by omega
  have h63 : ¬ ((n : Int) > IntKind.i64.max) := by
    have : IntKind.i64.max = 9223372036854775807 := rfl
    rw [this]; omega
  have h48' : ¬ (Builtin.nextslicecap n 0 * i.bytes > 2 ^ 48) := by omega
  have hq : (Question.appendCap n 0 e).forced = false := rfl
  have hw2 : ∀ w : World, (asInt (Value.int .i64 (n : Int))).run P w = .ok (n : Int) w := fun w => rfl
  simp only [Builtin.append_, a0, a1, b0, b1, Sem.run_bind, run_und hu, Result.andThen_ok, run_sizeT hs, run_und h2, Sem.run_pure, if_true, hw2, hw, hl0, if_false, run_typeInfo' hi, hl1, Int.toNat_natCast, Nat.zero_add, hfit, hne, h63, false_and, h48',
    run_choose_drew, hq, run_askRoom, hz, run_newRow, grownCap, run_firstCells_none, Nat.reducePow, Int.reducePow, Bool.not_true, Bool.false_eq_true]
  rfl
theorem app_zeros {t t2 e : TypeId} {es by' n : Nat} {k : IntKind} {z : AV} (hb : c.callee = .builtin .append) (rh : RH ρ base (hget s.h) w) (hk : ρ key = none) (hbase : base ≤ w.heap.size)
    (hu : P.underlying t = some (.slice e)) (h2 : P.underlying t2 = some (.int k)) (hs : sizeT P e = some es) (hby : bytesT P e = some by') (hz : zeroT P e = some z) (hok : zeroOk P e es by' = true)
    (a0 : c.argTypes[0]? = some t) (a1 : c.argTypes[1]? = some t2) (b0 : (c.args.map a.eval)[0]? = some (.slice none 0 0)) (b1 : (c.args.map a.eval)[1]? = some (.int .i64 (n : Int)))
    (h48 : (2 * n + 1024) * by' ≤ 281474976710656) (hn : 0 < n) :
    Some1 P ρ base key s w ((execOp a.eval ⟨dst, .call c, ty, pos, after, gd⟩).run P w) [.val (.slice key 0 0 n none) ⟨hset s.h key (rowT (tagA P e) (repl z.cells n) es), s.fc⟩] := by
  obtain ⟨z', hz1, hz2, hpos, hbp⟩ := zeroOk_spec hok
  rw [hz] at hz1; cases hz1
  obtain ⟨i, hi, hib⟩ := bytesT_spec hby
  subst hib
  obtain ⟨zu, hzu, _, rz⟩ := zero_rv (ρ := ρ) hz
  have hzs : zu.cells.size = es := by have := RVs.length rz; simp at this; omega
  have hrun := append_zeros (P := P) (w := w) (ty := ty) hu h2 hs hi hzu hpos hbp a0 a1 b0 b1 h48 hn
  have hcap := grownCap_le w n 0 e
  rw [exec_builtin hb]
  have rr := repl_rv rz n
  have hz0 : Builtin.zeroCells zu.cells n = (repl zu.cells.toList n).toArray := by
    unfold Builtin.zeroCells
    rw [zero_fill zu.cells n zu.cells.size rfl]
  rw [hz0] at hrun
  have hrow := row_app (ρ := ρ) (key := key) (b := w.drew.heap.size) (e := e) (olds := []) (ou := []) (len := 0) (n := n) (es := es) (zu := zu) (cap := grownCap w n 0 e) rfl rr (by simp) (by rw [repl_length, hz2]) hzs (by omega) hk (tg := tagA P e) (fun _ h => tagA_ty h)
  simp only [List.nil_append, Nat.zero_add] at hrow
  have hstp := Stp.new (key := key) (base := base) (h := s.h) (w := w.drew) (k := grownCap w n 0 e) (o := 0) (Stp.draw rh).rh hk hbase (rowT_norom _ _ _) hrow
  have hall := (Stp.draw rh).trans hstp
  refine .one ⟨_, _, hall, fun i hi => by simp [ext, hi], rfl, .inl ⟨.slice (some ⟨w.heap.size, 0, none⟩) n (grownCap w n 0 e), ?_, ⟨_, ext_self _ _, 0, by simpa using hcap, fun _ => rfl, rfl⟩⟩⟩
  simp only [builtin, Sem.run_bind, hrun, Result.andThen_ok, Sem.run_pure]
end
end Go.Ai

namespace Go.Ai
open Go
variable {P : Program} {ρ : Map} {fr : Fr} {a : Act} {base key : Nat} {s : St} {w : World} {outs : List Out}

/-- cells of a slice at its start -/
theorem first_old {h : Heap} (rh : RH ρ base (hget h) w) {id off eo len es : Nat} {cap : Option Nat} {x : Value} (rx : RV ρ (.slice id off eo len cap) x) {old : List AV} (hr : readCells h id off (len * es) = some old) :
    ∃ bs cc ou, x = .slice (some bs) len cc ∧ RVs ρ old ou ∧ old.length = len * es ∧ ∀ w' : World, w'.heap = w.heap → (Builtin.firstCells es len x).run P w' = .ok ou.toArray w' := by
  have hs : srcCells h es (.slice id off eo len cap) = some (len, old) := by
    cases len with
    | zero =>
      obtain ⟨en, hen, _⟩ := rx
      obtain ⟨hl, _⟩ := readCells_rv rh hr hen
      rw [List.length_eq_zero_iff.1 (hl.trans (Nat.zero_mul _))]
      rfl
    | succ n => simp only [srcCells, hr]
  obtain ⟨_, g2, us, g3, g4⟩ := srcCells_sound (P := P) rh hs rx
  obtain ⟨e, o', cc, _, hx, _⟩ := writes_slice rx
  refine ⟨_, cc, us, hx, g3, g2, fun w' hw => ?_⟩
  have := g4 w' hw len (Nat.le_refl _)
  have hl : us.take (len * es) = us := List.take_of_length_le (by rw [← RVs.length g3, g2]; exact Nat.le_refl _)
  rwa [hl] at this

theorem src_all {h : Heap} (rh : RH ρ base (hget h) w) {es n : Nat} {b : AV} {news : List AV} (hs : srcCells h es b = some (n, news)) {x : Value} (rx : RV ρ b x) :
    ∃ nu, RVs ρ news nu ∧ ∀ w' : World, w'.heap = w.heap → (Builtin.firstCells es n x).run P w' = .ok nu.toArray w' := by
  obtain ⟨_, g2, us, g3, g4⟩ := srcCells_sound (P := P) rh hs rx
  refine ⟨us, g3, fun w' hw => ?_⟩
  have := g4 w' hw n (Nat.le_refl _)
  have hl : us.take (n * es) = us := List.take_of_length_le (by rw [← RVs.length g3, g2]; exact Nat.le_refl _)
  rwa [hl] at this

theorem nil_of_zero {news : List AV} {nu : List Value} {es n : Nat} (rn : RVs ρ news nu) (ln : news.length = n * es) (h0 : n = 0) : nu = [] := by
  subst h0
  have := RVs.length rn
  exact List.length_eq_zero_iff.1 (by rw [← this, ln]; simp)

section
variable {dst : Option Tmp} {c : Call} {ty : TypeId} {pos : String} {after : Array Edge} {gd : Option (Nat × Bool)}
variable {t t2 e : TypeId} {es by' n len sCap : Nat} {zu x : Value} {bs : Option Addr}

/-- append where there is room -/
theorem app_room (hT : AppT P t t2 e es by' zu) (hb : c.callee = .builtin .append)
    (a0 : c.argTypes[0]? = some t) (a1 : c.argTypes[1]? = some t2) (b0 : (c.args.map a.eval)[0]? = some (.slice bs len sCap)) (b1 : (c.args.map a.eval)[1]? = some x)
    (hn : ∀ w, (Builtin.lenOf x).run P w = .ok n w) {nu : List Value} (hf : (Builtin.firstCells es n x).run P w = .ok nu.toArray w) (hfit : len + n ≤ sCap) {w' : World}
    (hst : match bs with | some b => (storeCells (b.add (len * es)) nu).run P w = .ok () w' | none => w' = w)
    {ρ' : Map} {s' : St} {v : AV} (hs : Stp ρ base (hget s.h) w ρ' (hget s'.h) w') (hρ : ∀ i, i ≠ key → ρ' i = ρ i) (hfc : s'.fc = s.fc) (rv : RV ρ' v (.slice bs (len + n) sCap)) :
    Some1 P ρ base key s w ((execOp a.eval ⟨dst, .call c, ty, pos, after, gd⟩).run P w) [.val v s'] := by
  have hrun := append_room (ty := ty) hT a0 a1 b0 b1 hn hf hfit hst
  rw [exec_builtin hb]
  refine .one ⟨_, _, hs, hρ, hfc, .inl ⟨.slice bs (len + n) sCap, ?_, rv⟩⟩
  simp only [builtin, Sem.run_bind, hrun, Result.andThen_ok, Sem.run_pure]

theorem a_append (hb : c.callee = .builtin .append) (rh : RH ρ base (hget s.h) w) (hk : ρ key = none) (hbase : base ≤ w.heap.size) (r : RF ρ fr a) (h : aApp P fr key s c.argTypes.toList c.args.toList = some outs) :
    Some1 P ρ base key s w ((execOp a.eval ⟨dst, .call c, ty, pos, after, gd⟩).run P w) outs := by
  unfold aApp at h
  split at h
  · rename_i t t2 x y ht hxy
    have a0 := typ_of ht 0
    have a1 := typ_of ht 1
    have b0 := arg_of (a := a) hxy 0
    have b1 := arg_of (a := a) hxy 1
    simp only [List.getElem?_cons_zero, List.getElem?_cons_succ, Option.map_some] at a0 a1 b0 b1
    unfold aApp2 at h
    split at h
    · rename_i av bv hx hy
      have rx := r.ev hx
      have ry := r.ev hy
      unfold appendA at h
      split at h
      · rename_i e hd
        split at h
        · rename_i es by' k2 hes hby hd2
          unfold appendZ at h
          split at h
          · rename_i n0
            unfold appendZ2 at h
            split at h
            · rename_i z hz
              split at h
              · rename_i hok h48
                have h48 : (2 * n0 + 1024) * by' ≤ 281474976710656 := by simpa using h48
                simp only [RV] at rx ry
                rw [rx] at b0
                rw [show Int.ofNat n0 = (n0 : Int) from rfl] at ry
                rw [ry] at b1
                unfold appendZ3 at h
                split at h
                · cases h
                  have hw : ∀ w : World, (asInt (Value.int .i64 ((0 : Nat) : Int))).run P w = .ok ((0 : Nat) : Int) w := fun w => rfl
                  obtain ⟨i, hi, hib⟩ := bytesT_spec hby
                  have hw0 : IntKind.i64.wrap ((0 : Nat) : Int) = 0 := by decide
                  have h480 : ¬ ((0 : Int) > 2 ^ 48) := by decide
                  rw [exec_builtin hb]
                  refine .one ⟨_, _, Stp.same rh, fun _ _ => rfl, rfl, .inl ⟨.slice none 0 0, ?_, rfl⟩⟩
                  have hrun : (Builtin.append_ c.argTypes ty (c.args.map a.eval)).run P w = .ok (.slice none 0 0) w := by
                    simp only [Builtin.append_, a0, a1, b0, b1, Sem.run_bind, run_und hd, Result.andThen_ok, run_sizeT hes, run_und hd2, Sem.run_pure, if_true, hw, hw0, run_typeInfo' hi, Int.lt_irrefl, if_false, Int.zero_mul, h480, Int.toNat_zero, Nat.add_zero, Nat.le_refl, Nat.zero_mul, Bool.not_true, Bool.false_eq_true]
                  simp only [builtin, Sem.run_bind, hrun, Result.andThen_ok, Sem.run_pure]
                · rename_i n1
                  cases h
                  simp only [St.upd_eq]
                  exact app_zeros hb rh hk hbase hd hd2 hes hby hz hok a0 a1 b0 b1 h48 (Nat.succ_pos _)
              · cases h
            · cases h
          · cases h
        · rename_i es by' d2 hnd hes hby hd2
          split at h
          · rename_i n news hz hsrc
            obtain ⟨z, hz1, hz2, hpos, hbp⟩ := zeroOk_spec hz
            obtain ⟨zu, hzu, rz0, rz⟩ := zero_rv (ρ := ρ) hz1
            have hT : AppT P t t2 e es by' zu := ⟨hd, ⟨d2, hd2, fun k hk => hnd k hk⟩, hes, bytesT_spec hby, hzu, by have := RVs.length rz; simp at this; omega, hpos, hbp⟩
            obtain ⟨hlen, ln, _⟩ := srcCells_sound (P := P) rh hsrc ry
            obtain ⟨nu, rn, hf⟩ := src_all (P := P) rh hsrc ry
            have hnl : 0 < n → 0 < news.length := fun hn => by rw [ln]; exact Nat.mul_pos hn hpos
            split at h
            · -- nil
              simp only [RV] at rx
              rw [rx] at b0
              split at h
              · cases h
                exact app_room hT hb a0 a1 b0 b1 hlen (hf w rfl) (Nat.le_refl _) (w' := w) rfl (Stp.same rh) (fun _ _ => rfl) rfl rfl
              · rename_i hn0
                split at h
                · rename_i h48
                  cases h
                  have hn0' : 0 < n := Nat.pos_of_ne_zero (fun h => hn0 h)
                  have h48 : (2 * (0 + n) + 1024) * by' ≤ 281474976710656 := by simpa using h48
                  have := app_new (dst := dst) (ty := ty) (pos := pos) (after := after) (gd := gd) hT hb hk hbase a0 a1 b0 b1 hlen (olds := []) (ou := []) rfl rn (by simp) ln (run_firstCells_none w.drew es 0 0 0) (hf _ rfl) (by omega) h48 (Stp.same rh) (tg := tagA P e) (fun _ h => tagA_ty h)
                  simp only [Nat.zero_add, List.nil_append] at this
                  simp only [St.upd_eq]
                  exact this
                · cases h
            · -- no room at an unknown place
              obtain ⟨ad, rx⟩ := rx
              rw [rx] at b0
              split at h
              · cases h
                have hnu : nu = [] := nil_of_zero rn ln rfl
                subst hnu
                exact app_room hT hb a0 a1 b0 b1 hlen (hf w rfl) (Nat.le_refl _) (w' := w) (storeCells_nil _ _) (Stp.same rh) (fun _ _ => rfl) rfl ⟨ad, rfl⟩
              · rename_i hn0
                split at h
                · rename_i h48
                  cases h
                  have hn0' : 0 < n := Nat.pos_of_ne_zero (fun h => hn0 h)
                  have h48 : (2 * (0 + n) + 1024) * by' ≤ 281474976710656 := by simpa using h48
                  have := app_new (dst := dst) (ty := ty) (pos := pos) (after := after) (gd := gd) hT hb hk hbase a0 a1 b0 b1 hlen (olds := []) (ou := []) rfl rn (by simp) ln (run_firstCells_some (P := P) w.drew es 0 ad 0 0 [] (by simp) (fun j u hj => by simp at hj)) (hf _ rfl) (by omega) h48 (Stp.same rh) (tg := tagA P e) (fun _ h => tagA_ty h)
                  simp only [Nat.zero_add, List.nil_append] at this
                  simp only [St.upd_eq]
                  exact this
                · cases h
            · -- a slice
              rename_i id off eo len cap
              split at h
              · cases h
              · rename_i h48
                have h48 : (2 * (len + n) + 1024) * by' ≤ 281474976710656 := by simpa using h48
                split at h
                · -- nothing more
                  cases h
                  obtain ⟨en, hen, rx⟩ := rx
                  have hnu : nu = [] := nil_of_zero rn ln rfl
                  subst hnu
                  cases cap with
                  | some cc =>
                    obtain ⟨o', h1, h2, h3⟩ := rx
                    rw [h3] at b0
                    exact app_room hT hb a0 a1 b0 b1 hlen (hf w rfl) (by omega) (w' := w) (storeCells_nil _ _) (Stp.same rh) (fun _ _ => rfl) rfl ⟨en, hen, o', h1, h2, rfl⟩
                  | none =>
                    obtain ⟨o', h1, h2, h3⟩ := rx
                    rw [h3] at b0
                    exact app_room hT hb a0 a1 b0 b1 hlen (hf w rfl) (by omega) (w' := w) (storeCells_nil _ _) (Stp.same rh) (fun _ _ => rfl) rfl ⟨en, hen, o', h1, h2, rfl⟩
                · rename_i hn0
                  have hn0' : 0 < n := Nat.pos_of_ne_zero (fun h => hn0 h)
                  split at h
                  · rename_i cs m es' tg hg
                    split at h
                    · -- open, within what is known
                      rename_i hle
                      split at h
                      · rename_i hbb
                        simp only [Bool.and_eq_true] at hbb
                        have e1 := Nat.eq_of_beq_eq_true hbb.1
                        have e2 := Nat.eq_of_beq_eq_true hbb.2
                        subst e1
                        split at h
                        · rename_i h' hw
                          cases h
                          obtain ⟨en, hen, o', h1, h2, h3⟩ := rx
                          obtain ⟨e', ob, k1, k2, k3, cc, ty', lo, hi, k4, _, k5, k6, k7, k8, k9⟩ := rh.blk id _ hg (by simp)
                          rw [hen] at k1; cases k1
                          have hle : off + (len + n) * es ≤ m := by simpa using hle
                          have hroom : eo + (len + n) ≤ en.k := by
                            have := Nat.le_trans hle (k7 hpos)
                            rw [e2, ← Nat.add_mul] at this
                            exact Nat.le_of_mul_le_mul_right this hpos
                          have := h2 (by omega)
                          subst this
                          rw [h3] at b0
                          obtain ⟨w', hr, hst⟩ := Stp.write (P := P) rh hw hen rn
                          refine app_room hT hb a0 a1 b0 b1 hlen (hf w rfl) (by omega) (w' := w') ?_ (s' := ⟨h', s.fc⟩) hst (fun _ _ => rfl) rfl ⟨en, hen, o', by omega, fun _ => rfl, rfl⟩
                          simp only [add_none, Nat.add_assoc]; exact hr
                        · cases h
                      · cases h
                    · rename_i fits _ cc
                      split at h
                      · rename_i hfit
                        have hfit : len + n ≤ cc := by simpa using hfit
                        split at h
                        · split at h
                          · rename_i h' hw
                            cases h
                            obtain ⟨en, hen, o', h1, h2, h3⟩ := rx
                            have := h2 (by omega)
                            subst this
                            rw [h3] at b0
                            obtain ⟨w', hr, hst⟩ := Stp.write (P := P) rh hw hen rn
                            refine app_room hT hb a0 a1 b0 b1 hlen (hf w rfl) hfit (w' := w') ?_ (s' := ⟨h', s.fc⟩) hst (fun _ _ => rfl) rfl ⟨en, hen, o', hfit, fun _ => rfl, rfl⟩
                            simp only [add_none, Nat.add_assoc]; exact hr
                          · cases h
                        · cases h
                      · rename_i hfit
                        have hfit : ¬ len + n ≤ cc := by
                          intro hle
                          have := Nat.ble_eq_true_of_le hle
                          rw [this] at hfit; cases hfit
                        split at h
                        · rename_i old hold
                          cases h
                          obtain ⟨bs, c2, ou, hx2, ro, lo, hfo⟩ := first_old (P := P) rh rx hold
                          have hc2 : c2 = cc := by
                            obtain ⟨en, hen, o', h1, h2, h3⟩ := rx
                            rw [h3] at hx2; cases hx2; rfl
                          subst hc2
                          rw [hx2] at b0 hfo
                          rw [St.upd_eq]
                          exact app_new hT hb hk hbase a0 a1 b0 b1 hlen ro rn lo ln (hfo _ rfl) (hf _ rfl) hfit h48 (Stp.same rh) (tg := tagA P e) (fun _ h => tagA_ty h)
                        · cases h
                    · -- open, beyond what is known
                      split at h
                      · rename_i hbb
                        simp only [Bool.and_eq_true] at hbb
                        have e1 := Nat.eq_of_beq_eq_true hbb.1.1
                        have e2 := Nat.eq_of_beq_eq_true hbb.1.2
                        have hcell := hbb.2
                        subst e1
                        split at h
                        · rename_i old hold
                          cases h
                          obtain ⟨bs, c2, ou, hx2, ro, lo, hfo⟩ := first_old (P := P) rh rx hold
                          obtain ⟨en, hen, o', h1, h2, h3⟩ := rx
                          have hc2 : c2 = en.k - eo ∧ bs = ⟨en.b, en.o + o', none⟩ := by
                            rw [h3] at hx2; cases hx2; exact ⟨rfl, rfl⟩
                          obtain ⟨hc2, hbs⟩ := hc2
                          subst hc2
                          rw [hx2] at b0 hfo
                          simp only [St.upd_eq]
                          by_cases hfit : len + n ≤ en.k - eo
                          · -- there is room
                            have := h2 (by omega)
                            subst this
                            obtain ⟨e', ob, k1, k2, k3, cv, ty', lo', hi, k4, kt, k5, k6, k7, k8, k9⟩ := rh.blk id _ hg (by simp)
                            rw [hen] at k1; cases k1
                            subst k4
                            have hru := RVs.length rn
                            have hrow : (len + n) * es = len * es + n * es := Nat.add_mul _ _ _
                            have hk1 : (eo + (len + n)) * es ≤ en.k * es := Nat.mul_le_mul_right _ (by omega)
                            have hk2 : (eo + (len + n)) * es = o' + (len * es + n * es) := by rw [Nat.add_mul, hrow, e2]
                            have hrun := run_storeCells_fill (P := P) en.b (en.o + o' + len * es) ty' (lo', hi) nu 0 cv w k3 (by omega) k8 (cells_one hcell rn)
                            have hcs := setRow_heap w en.b cv (fillA cv.toList (en.o + o' + len * es + 0) nu).toArray ty' (lo', hi) k3
                            have hdead := Stp.dead rh id
                            have hnid : ∀ i e', live (hget (hset s.h id .dead)) i → ρ i = some e' → e'.b ≠ en.b := by
                              intro i e' hl he' hbb'
                              obtain ⟨hl', hne⟩ := hget_dead s.h id i hl
                              exact hne (rh.inj i id e' en hl' ⟨_, hg, by simp⟩ he' hen hbb')
                            have hlo := RVs.length ro
                            obtain ⟨g1, g2, g3, g4⟩ := Stp.name (key := key) hdead.rh hk (e := ⟨en.b, en.o + o', en.k - eo⟩) (blk := rowT (tagM tg (tagA P e)) (old ++ news) es) k2 hcs (fun b _ hb' => setRow_other w en.b b _ hb') rfl rfl rfl (by simp) hnid (owns ρ (hget s.h))
                              (fun b ⟨i, e', hl, he', hb'⟩ => ⟨i, e', (hget_dead s.h id i hl).1, he', hb'⟩) (.inl ⟨id, en, ⟨_, hg, by simp⟩, hen, rfl⟩) (rowT_norom _ _ _) (by
                                rw [rowT_eq]
                                refine ⟨_, ty', lo', hi, rfl, fun u hu => ⟨(kt u (tagM_l hu)).1, fun h0 => absurd h0 (by omega)⟩, ?_, ?_, ?_, by simpa [fillA_length] using k8, fun i hi' av hav => ?_⟩
                                · simp [fillA_length, lo, ln]; omega
                                · have h1' : (en.k - eo) * es = en.k * es - eo * es := Nat.sub_mul _ _ _
                                  simp only [List.size_toArray, fillA_length, Array.length_toList, h1']
                                  omega
                                · intro _
                                  rw [List.length_append, lo, ln, ← Nat.add_mul]; exact Nat.mul_le_mul_right _ hfit
                                · rw [T.get_setList] at hav
                                  rw [if_pos (by omega)] at hav
                                  simp only [Nat.sub_zero] at hav
                                  simp only [List.getElem?_toArray]
                                  rw [List.length_append, lo, ln] at hi'
                                  rw [fillA_get nu cv.toList _ _ (by simp; omega)]
                                  by_cases hin : len * es ≤ i
                                  · rw [if_pos (by omega)]
                                    rw [List.getElem?_append_right (by omega)] at hav
                                    obtain ⟨y, hy, ry⟩ := RVs.get rn _ av hav
                                    exact ⟨y, by rw [show en.o + o' + i - (en.o + o' + len * es + 0) = i - old.length by omega]; exact hy, RV.mono (ext_mono hk) _ _ ry⟩
                                  · rw [if_neg (by omega)]
                                    rw [List.getElem?_append_left (by omega)] at hav
                                    have hold' := hold
                                    unfold readCells at hold'
                                    rw [hg] at hold'
                                    simp only at hold'
                                    split at hold'
                                    · rename_i hle2
                                      have hle2 : o' + len * es ≤ m := by simpa using hle2
                                      obtain ⟨_, hget⟩ := rowGet_spec hold'
                                      have := hget i (by omega)
                                      rw [hav] at this
                                      obtain ⟨y, hy, ry⟩ := k9 (o' + i) (by omega) av this
                                      exact ⟨y, by rw [Nat.add_assoc]; simpa using hy, RV.mono (ext_mono hk) _ _ ry⟩
                                    · cases hold')
                            have hstp : Stp ρ base (hget s.h) w (ext ρ key ⟨en.b, en.o + o', en.k - eo⟩) (hget (hset (hset s.h id .dead) key (rowT (tagM tg (tagA P e)) (old ++ news) es))) (w.setRow en.b (fillA cv.toList (en.o + o' + len * es + 0) nu).toArray) := ⟨g1, g2, g3, g4⟩
                            refine app_room hT hb a0 a1 b0 b1 hlen (hf w rfl) hfit (w' := _) ?_ (s' := ⟨hset (hset s.h id .dead) key (rowT (tagM tg (tagA P e)) (old ++ news) es), s.fc⟩) hstp (fun i hi => by simp [ext, hi]) rfl ⟨_, ext_self _ _, 0, by simpa using hfit, fun _ => rfl, by rw [hbs]; rfl⟩
                            rw [hbs]
                            simp only [add_none]
                            exact hrun
                          · exact app_new hT hb hk hbase a0 a1 b0 b1 hlen ro rn lo ln (hfo _ rfl) (hf _ rfl) hfit h48 (Stp.dead rh id) (fun u hu => tagA_ty (tagM_r hu))
                        · cases h
                      · cases h
                  · -- what may not be written
                    split at h
                    · rename_i cc
                      split at h
                      · cases h
                      · rename_i hfit
                        have hfit : ¬ len + n ≤ cc := by
                          intro hle
                          have := Nat.ble_eq_true_of_le hle
                          rw [this] at hfit; cases hfit
                        split at h
                        · rename_i old hold
                          cases h
                          obtain ⟨bs, c2, ou, hx2, ro, lo, hfo⟩ := first_old (P := P) rh rx hold
                          have hc2 : c2 = cc := by
                            obtain ⟨en, hen, o', h1, h2, h3⟩ := rx
                            rw [h3] at hx2; cases hx2; rfl
                          subst hc2
                          rw [hx2] at b0 hfo
                          rw [St.upd_eq]
                          exact app_new hT hb hk hbase a0 a1 b0 b1 hlen ro rn lo ln (hfo _ rfl) (hf _ rfl) hfit h48 (Stp.same rh) (tg := tagA P e) (fun _ h => tagA_ty h)
                        · cases h
                    · cases h
                  · cases h
            · cases h
          · cases h
        · cases h
      · cases h
    · cases h
  · cases h
end

/-- ONE OF THE OPERATIONS THAT ACT, BUT CALL NONE. -/
theorem act_sound {o : Oper} (rh : RH ρ base (hget s.h) w) (r : RF ρ fr a) (h : actOp P fr s o.op = some outs) : Some1 P ρ base key s w ((execOp a.eval o).run P w) outs := by
  obtain ⟨dst, op, ty, pos, after, gd⟩ := o
  simp only at h
  unfold actOp at h
  split at h
  · exact a_store rh r h
  · exact a_mapUpdate rh r h
  · exact a_mapEntry rh r h
  · exact a_entryStore rh r h
  · exact a_next rh r h
  · exact a_panic r h
  · cases h
theorem builtin_sound {dst : Option Tmp} {c : Call} {ty : TypeId} {pos : String} {after : Array Edge} {gd : Option (Nat × Bool)} {b : Builtin} (hb : c.callee = .builtin b) (rh : RH ρ base (hget s.h) w) (hk : ρ key = none) (hbase : base ≤ w.heap.size) (r : RF ρ fr a)
    (h : aBuiltin P fr key s c b = some outs) : Some1 P ρ base key s w ((execOp a.eval ⟨dst, .call c, ty, pos, after, gd⟩).run P w) outs := by
  unfold aBuiltin at h
  split at h
  · exact a_append hb rh hk hbase r h
  · exact a_copy hb rh r h
  · exact a_delete hb rh r h
  · exact a_clear hb rh r h
  · exact a_max hb rh r h
  · exact a_min hb rh r h
  · exact a_usd hb rh r h
  · exact a_us hb rh r h
  · cases h

/-- a new block, of any kind -/
theorem newBlk_sound {o : Oper} {v : AV} {b : AB} (rh : RH ρ base (hget s.h) w) (hk : ρ key = none) (hbase : base ≤ w.heap.size) (r : RF ρ fr a) (h : newBlk P fr s.h key o.op = some (v, b)) :
    ∃ (ρ' : Map) (w' : World) (u : Value), (execOp a.eval o).run P w = .ok (.value u) w' ∧ Stp ρ base (hget s.h) w ρ' (hget (hset s.h key b)) w' ∧ (∀ i, i ≠ key → ρ' i = ρ i) ∧ RV ρ' v u := by
  obtain ⟨dst, op, ty, pos, after, gd⟩ := o
  simp only at h
  unfold newBlk at h
  split at h
  · rename_i t x
    simp only [rangeOp] at h
    split at h
    · rename_i kt et hd hx
      cases h
      have rx := r.ev hx
      simp only [RV] at rx
      refine ⟨ext ρ key ⟨w.heap.size, 0, 0⟩, w.alloc (.mapIter none 0 #[] 0), .pointer (some ⟨w.heap.size, 0, none⟩), ?_, Stp.new rh hk hbase (by simp) ⟨none, rfl, rfl, rfl⟩, fun i hi => by simp [ext, hi], ⟨_, ext_self _ _, rfl⟩⟩
      simp only [execOp, Instr.range, Sem.run_bind, run_und hd, Result.andThen_ok, rx, Sem.run_pure, run_newObj_alloc]
    · rename_i kt et id hd hx
      split at h
      · rename_i es clock hg
        cases h
        obtain ⟨e, he, hax⟩ := r.ev hx
        obtain ⟨ents, hbk, _⟩ := rh.map hg he
        refine ⟨ext ρ key ⟨w.heap.size, 0, 0⟩, w.alloc (.mapIter (some e.b) clock #[] clock), .pointer (some ⟨w.heap.size, 0, none⟩), ?_, Stp.new rh hk hbase (by simp) ⟨some e.b, rfl, rfl, e, ext_mono hk _ _ he, rfl⟩, fun i hi => by simp [ext, hi], ⟨_, ext_self _ _, rfl⟩⟩
        simp only [execOp, Instr.range, Sem.run_bind, run_und hd, Result.andThen_ok, hax, run_getObj hbk (by simp), Sem.run_pure, run_newObj_alloc]
      · cases h
    · cases h
  · obtain ⟨ob, k, u, h1, h2, h3⟩ := alloc_sound (key := key) (o := ⟨dst, op, ty, pos, after, gd⟩) r hk h w
    exact ⟨_, _, u, h1, Stp.new rh hk hbase (allocOp_norom h) h3, fun i hi => by simp [ext, hi], h2⟩
end Go.Ai

namespace Go.Ai
open Go
variable {P : Program} {fr fr' : Fr}

theorem evs_cong : ∀ {xs : List Operand}, (∀ x ∈ xs, fr.ev x = fr'.ev x) → evs fr xs = evs fr' xs
  | [], _ => rfl
  | x :: xs, h => by simp only [evs, h x List.mem_cons_self, evs_cong (xs := xs) fun y hy => h y (List.mem_cons_of_mem _ hy)]
theorem evO_cong {o : Option Operand} (h : ∀ x ∈ o, fr.ev x = fr'.ev x) : evO fr o = evO fr' o := by
  cases o with
  | none => rfl
  | some x => simp only [evO, h x rfl]
theorem evParts_cong : ∀ {ps : List (Nat × Operand)}, (∀ p ∈ ps, fr.ev p.2 = fr'.ev p.2) → evParts fr ps = evParts fr' ps
  | [], _ => rfl
  | (i, x) :: ps, h => by simp only [evParts, h _ List.mem_cons_self, evParts_cong (ps := ps) fun y hy => h y (List.mem_cons_of_mem _ hy)]

theorem pure_cong {op : Op} (h : ∀ x ∈ op.operands, fr.ev x = fr'.ev x) : pureOp P fr op = pureOp P fr' op := by
  cases op <;> simp only [Op.operands] at h <;> simp only [pureOp]
  case build t ps => simp only [pBuild, evParts_cong (fr := fr) (fr' := fr') (ps := ps.toList) (fun p hp => h p.2 (by simp; exact ⟨p.1, by simpa using hp⟩))]
  case makeFunc f first captured =>
    rw [evs_cong (fr := fr) (fr' := fr') (xs := first.toList) fun x hx => h x (by simp at hx ⊢; exact .inl hx), evs_cong (fr := fr) (fr' := fr') (xs := captured.toList) fun x hx => h x (by simp at hx ⊢; exact .inr hx)]
  case slice t x lo hi mx =>
    rw [h x (by simp), evO_cong (fr := fr) (fr' := fr') (o := lo) fun y hy => h y (by simp at hy ⊢; simp [hy]), evO_cong (fr := fr) (fr' := fr') (o := hi) fun y hy => h y (by simp at hy ⊢; simp [hy]), evO_cong (fr := fr) (fr' := fr') (o := mx) fun y hy => h y (by simp at hy ⊢; simp [hy])]
  all_goals (first | rfl | (simp_all [pPick]; done))
theorem callargs_cong {c : Call} (h : ∀ x ∈ c.operands, fr.ev x = fr'.ev x) : (∀ x ∈ c.args.toList, fr.ev x = fr'.ev x) ∧ (∀ f, c.callee = .value f → fr.ev f = fr'.ev f) ∧ (∀ f m, c.callee = .invoke f m → fr.ev f = fr'.ev f) := by
  refine ⟨fun x hx => h x ?_, fun f hf => h f ?_, fun f m hf => h f ?_⟩
  · simp only [Call.operands]; simp at hx ⊢; exact .inr hx
  · simp [Call.operands, hf]
  · simp [Call.operands, hf]

theorem read_cong {G : Glob} {h0 : Heap} {op : Op} (h : ∀ x ∈ op.operands, fr.ev x = fr'.ev x) : readOp P G fr h0 op = readOp P G fr' h0 op := by
  cases op <;> simp only [Op.operands] at h <;> simp only [readOp]
  case slice t x lo hi mx =>
    rw [h x (by simp), evO_cong (fr := fr) (fr' := fr') (o := lo) fun y hy => h y (by simp at hy ⊢; simp [hy]), evO_cong (fr := fr) (fr' := fr') (o := hi) fun y hy => h y (by simp at hy ⊢; simp [hy]), evO_cong (fr := fr) (fr' := fr') (o := mx) fun y hy => h y (by simp at hy ⊢; simp [hy])]
  case call c =>
    obtain ⟨h1, _, _⟩ := callargs_cong h
    unfold rCall
    split
    · cases ha : c.args.toList[0]? with
      | none => cases c.argTypes.toList[0]? <;> rfl
      | some x =>
        have := h1 x (List.mem_of_getElem? ha)
        cases c.argTypes.toList[0]? <;> simp only [rLen, this]
    · cases ha : c.args.toList[0]? with
      | none => cases c.argTypes.toList[0]? <;> rfl
      | some x =>
        have := h1 x (List.mem_of_getElem? ha)
        cases c.argTypes.toList[0]? <;> simp only [rCap, this]
    · rfl
  all_goals (first | rfl | (simp_all; done))
theorem alloc_cong {key : Nat} {op : Op} (h : ∀ x ∈ op.operands, fr.ev x = fr'.ev x) : allocOp P fr key op = allocOp P fr' key op := by
  cases op <;> simp only [Op.operands] at h <;> simp only [allocOp]
  case buildSlice t len ps => simp only [evParts_cong (fr := fr) (fr' := fr') (ps := ps.toList) (fun p hp => h p.2 (by simp; exact ⟨p.1, by simpa using hp⟩))]
  case makeMap t r => cases r <;> rfl
  all_goals (first | rfl | (simp_all; done))

theorem target_cong {c : Call} (h : ∀ x ∈ c.operands, fr.ev x = fr'.ev x) : target P fr c = target P fr' c := by
  obtain ⟨h1, h2, h3⟩ := callargs_cong h
  unfold target
  split
  · rename_i f hf; rw [h2 f hf, evs_cong h1]
  · rename_i f m hf; rw [h3 f m hf, evs_cong h1]
  · rfl
theorem builtin_cong {key : Nat} {s : St} {c : Call} {b : Builtin} (h : ∀ x ∈ c.operands, fr.ev x = fr'.ev x) : aBuiltin P fr key s c b = aBuiltin P fr' key s c b := by
  obtain ⟨h1, _, _⟩ := callargs_cong h
  unfold aBuiltin
  cases b <;> simp only
  · unfold aApp; split
    · rename_i x y _ hxy; rw [h1 x (by simp [hxy]), h1 y (by simp [hxy])]
    · rfl
  · unfold aCl; split
    · rename_i x _ hxy; rw [h1 x (by simp [hxy])]
    · rfl
  · unfold aCp; split
    · rename_i x y _ hxy; rw [h1 x (by simp [hxy]), h1 y (by simp [hxy])]
    · rfl
  · unfold aDl; split
    · rename_i x y _ hxy; rw [h1 x (by simp [hxy]), h1 y (by simp [hxy])]
    · rfl
  · rw [evs_cong h1]
  · rw [evs_cong h1]
  · rw [evs_cong h1]
  · rw [evs_cong h1]
theorem act_cong {s : St} {op : Op} (h : ∀ x ∈ op.operands, fr.ev x = fr'.ev x) : actOp P fr s op = actOp P fr' s op := by
  cases op <;> simp only [Op.operands] at h <;> simp only [actOp]
  case next it b => cases b <;> simp_all
  all_goals (first | rfl | (simp_all; done))
theorem heavy_cong {call : CallF} {key : Nat} {s : St} {op : Op} (h : ∀ x ∈ op.operands, fr.ev x = fr'.ev x) : heavy P call fr key s op = heavy P call fr' key s op := by
  unfold heavy
  split
  · rename_i c
    simp only [Op.operands] at h
    unfold heavyCall
    split
    · exact builtin_cong h
    · rw [target_cong h]
  · exact act_cong h
end Go.Ai

namespace Go.Ai
open Go
variable {P : Program} {G : Glob} {base : Nat}

def KK : Nat := 1267650600228229401496703205376
theorem key_eq (fr : Fr) (i : Nat) : keyOf fr i = fr.fno * KK + (fr.lc + i) := by
  show KK * fr.fno + (fr.lc + i) = _
  rw [Nat.mul_comm]
theorem succ_KK (n : Nat) : (n + 1) * KK = n * KK + KK := by rw [Nat.add_mul, Nat.one_mul]

/-- what an operation or a call may change -/
structure Adv (base : Nat) (ok : Nat → Prop) (ρ : Map) (s : St) (w : World) (ρ' : Map) (s' : St) (w' : World) : Prop where
  st : Stp ρ base (hget s.h) w ρ' (hget s'.h) w'
  fc : s.fc ≤ s'.fc
  keep : ∀ i, i < s.fc * KK → ¬ ok i → ρ' i = ρ i
  hi : ∀ i, s'.fc * KK ≤ i → ρ' i = none

theorem Adv.refl {ok : Nat → Prop} {ρ : Map} {s : St} {w : World} (r : RH ρ base (hget s.h) w) (h : ∀ i, s.fc * KK ≤ i → ρ i = none) : Adv base ok ρ s w ρ s w :=
  ⟨Stp.same r, Nat.le_refl _, fun _ _ _ => rfl, h⟩
theorem Adv.trans {ok : Nat → Prop} {ρ ρ1 ρ2 : Map} {s s1 s2 : St} {w w1 w2 : World} (h : Adv base ok ρ s w ρ1 s1 w1) (k : Adv base ok ρ1 s1 w1 ρ2 s2 w2) : Adv base ok ρ s w ρ2 s2 w2 :=
  ⟨h.st.trans k.st, Nat.le_trans h.fc k.fc, fun i hi hn => (k.keep i (Nat.lt_of_lt_of_le hi (Nat.mul_le_mul_right _ h.fc)) hn).trans (h.keep i hi hn), k.hi⟩
theorem Adv.mono {ok ok' : Nat → Prop} {ρ ρ1 : Map} {s s1 : St} {w w1 : World} (h : Adv base ok ρ s w ρ1 s1 w1) (hk : ∀ i, i < s.fc * KK → ok i → ok' i) : Adv base ok' ρ s w ρ1 s1 w1 :=
  ⟨h.st, h.fc, fun i hi hn => h.keep i hi (fun ho => hn (hk i hi ho)), h.hi⟩

/-- the memory that a call finds -/
structure RM (G : Glob) (base : Nat) (ρ : Map) (s : St) (w : World) : Prop where
  rh : RH ρ base (hget s.h) w
  rg : RG G base w
  bs : base ≤ w.heap.size
  hi : ∀ i, s.fc * KK ≤ i → ρ i = none
theorem RM.adv {ok : Nat → Prop} {ρ ρ' : Map} {s s' : St} {w w' : World} (r : RM G base ρ s w) (h : Adv base ok ρ s w ρ' s' w') : RM G base ρ' s' w' :=
  ⟨h.st.rh, r.rg.keeps h.st.keeps (owns_base r.rh), Nat.le_trans r.bs h.st.keeps.size, h.hi⟩

/-- how a call ends -/
def CallPost (base : Nat) (ρ : Map) (s : St) (w : World) (outs : List Out) : Ending → World → Prop := fun e w' =>
  ∃ ρ', (∃ v s' u, Out.val v s' ∈ outs ∧ e = .returned u ∧ RV ρ' v u ∧ Adv base (fun _ => False) ρ s w ρ' s' w') ∨
    (∃ v s' u, Out.pan v s' ∈ outs ∧ e = .panicked [{ v := u, recovered := false }] ∧ RV ρ' v u ∧ Adv base (fun _ => False) ρ s w ρ' s' w')

/-- a call, where it is made -/
def Meets (P : Program) (r : Result Next) (R : Ending → World → Prop) : Prop :=
  match r with
  | .ok (.value v) w' => R (.returned v) w'
  | .ok (.enter f args) w' => Calls P f args w' R
  | _ => False

/-- a round, where it is asked for -/
def MeetsY (P : Program) (r : Result Next) (R : Ending → World → Prop) : Prop :=
  ∃ l f tmps assign body w', r = .ok (.round l f tmps assign body) w' ∧ RoundIn Fence.wide 0 P l f tmps assign body w' R
structure CallOK (P : Program) (G : Glob) (base : Nat) (call : CallF) : Prop where
  fn : ∀ f args s outs, call f args s = some outs → ∀ ρ w vs, RVs ρ args vs → RM G base ρ s w → Meets P ((callFunc f vs.toArray).run P w) (CallPost base ρ s w outs)
  yl : ∀ k args s outs, call.yl k args s = some outs → ∀ ρ w vs e, RVs ρ args vs → RM G base ρ s w → ρ k = some e → MeetsY P ((Instr.yield e.b vs.toArray).run P w) (CallPost base ρ s w outs)

theorem Meets.upon {o : Oper} {a : Act} {K : Act → World → Prop} {Q : Exit → Act → World → Prop} {r : Result Next} {R : Ending → World → Prop} (h : Meets P r R)
    (hK : ∀ u w', R (.returned u) w' → K (a.put o.dst u) w') (hQ : ∀ ch w', R (.panicked ch) w' → Q (.panic ch) a w') (hR : ∀ w', ¬ R .outgrown w') : o.upon P a K Q r := by
  unfold Meets at h
  split at h
  · rename_i v w'; rw [Oper.upon_value]; exact hK _ _ h
  · rename_i f args w'
    rw [Oper.upon_enter]
    refine h.mono fun e w'' he => ?_
    cases e with
    | returned v => exact hK _ _ he
    | panicked ch => exact hQ _ _ he
    | outgrown => exact (hR _ he).elim
  · exact h.elim

section
variable {ρ : Map} {fr : Fr} {a : Act} {key : Nat} {s : St} {w : World} {outs : List Out}

/-! ### the function behind a method -/
theorem methodA_sound {t : TypeId} {v rv : AV} {name : String} {f : FuncId} {u : Value} (h : methodA P t v name = some (f, rv)) (r : RV ρ v u) (n : Nat) (w : World) :
    ∃ ru, (method (n + 1) t u name).run P w = .ok (f, ru) w ∧ RV ρ rv ru := by
  unfold methodA at h
  split at h
  · rename_i i hi
    split at h
    · rename_i m hm
      split at h
      · rename_i f' pr hpath hfun
        have hpe : m.path = #[] := Array.toList_inj.1 (by simpa using hpath)
        have base : (method (n + 1) t u name).run P w = ((do pure (f', ← receiverAt t (.val u) pr (if m.path.isEmpty then some ((name.splitOn ".").getLastD name) else none)) : Sem (FuncId × Value)).run P w) := by
          simp only [method, Sem.run_bind, run_typeInfo' hi, Result.andThen_ok, hm, hpath, follow, Sem.run_pure, hfun]
        split at h
        · rename_i e hd
          cases h
          refine ⟨u, ?_, r⟩
          rw [base]
          simp only [receiverAt, Sem.run_bind, run_und hd, Result.andThen_ok, Place.get, Sem.run_pure]
        · cases h
        · rename_i d hnp hd
          cases h
          refine ⟨u, ?_, r⟩
          rw [base]
          have hrec : (receiverAt t (.val u) false (if m.path.isEmpty then some ((name.splitOn ".").getLastD name) else none)).run P w = .ok u w := by
            cases d <;> first
              | (exact absurd rfl (hnp _))
              | (simp only [receiverAt, Sem.run_bind, run_und hd, Result.andThen_ok, Place.get, Sem.run_pure])
          simp only [Sem.run_bind, hrec, Result.andThen_ok, Sem.run_pure]
        · cases h
      · cases h
    · cases h
  · cases h

/-- a call of a function -/
theorem target_sound {dst : Option Tmp} {c : Call} {ty : TypeId} {pos : String} {after : Array Edge} {gd : Option (Nat × Bool)} (r : RF ρ fr a) {f : FuncId} {args : List AV} (h : target P fr c = some (f, args)) :
    ∃ vs, RVs ρ args vs ∧ (execOp a.eval ⟨dst, .call c, ty, pos, after, gd⟩).run P w = (callFunc f vs.toArray).run P w := by
  have e0 : execOp a.eval ⟨dst, .call c, ty, pos, after, gd⟩ = (do let d ← resolve a.eval c ty; invoke d.target d.args) := rfl
  unfold target at h
  split at h
  · rename_i fo hc
    split at h
    · rename_i g first captured as hf has
      cases h
      obtain ⟨first', cap', r1, r2, hfv⟩ := r.ev hf
      have ra := r.evs has
      refine ⟨first' ++ c.args.toList.map a.eval ++ cap', RVs.append (RVs.append r1 ra) r2, ?_⟩
      rw [e0]
      simp only [resolve, hc, hfv, Deferred.ofValue, Sem.run_bind, Sem.run_pure, Result.andThen_ok, invoke]
      congr 2
      apply Array.toList_inj.1
      simp
    · cases h
  · rename_i ro name hc
    split at h
    · rename_i t v as hf has
      split at h
      · rename_i f' rv hm
        cases h
        obtain ⟨y, ry, hy⟩ := r.ev hf
        have ra := r.evs has
        obtain ⟨ru, h1, h2⟩ := methodA_sound (P := P) hm ry (P.types.size + Made.depth - 1) w
        refine ⟨ru :: c.args.toList.map a.eval, ⟨ru, _, h2, ra, rfl⟩, ?_⟩
        rw [e0]
        have hdep : P.types.size + Made.depth - 1 + 1 = P.types.size + Made.depth := by
          have : 0 < Made.depth := by decide
          omega
        rw [hdep] at h1
        have hext : ((#[Value.iface t y] ++ c.args.map a.eval).extract 1 (#[Value.iface t y] ++ c.args.map a.eval).size) = c.args.map a.eval := by
          apply Array.toList_inj.1
          simp only [Array.toList_extract, Array.toList_append, Array.toList_map, List.extract_eq_take_drop, Array.size_append, Array.size_map]
          simp [List.take_of_length_le]
        have h0 : (#[Value.iface t y] ++ c.args.map a.eval)[0]? = some (.iface t y) := by
          rw [Array.getElem?_append_left (by simp)]; rfl
        simp only [resolve, hc, hy, Sem.run_bind, Sem.run_pure, Result.andThen_ok, invoke, h0, hext, callMethod, run_program, h1]
        congr 2
        apply Array.toList_inj.1
        simp
      · cases h
    · cases h
  · cases h

theorem AO.adv {s' : St} {v : AV} {run : Result Next} (rm : RM G base ρ s w) (hkey : key < s.fc * KK) (h : AO P ρ base key s w run (.val v s')) :
    ∃ ρ' w', Adv base (fun i => i = key) ρ s w ρ' s' w' ∧ ((∃ u, run = .ok (.value u) w' ∧ RV ρ' v u) ∨ (run = .ok .skip w' ∧ v = .undef)) := by
  obtain ⟨ρ', w', h1, h2, h3, h4⟩ := h
  refine ⟨ρ', w', ⟨h1, by omega, fun i _ hn => h2 i hn, fun i hi => ?_⟩, h4⟩
  rw [h3] at hi
  rw [h2 i (by omega)]
  exact rm.hi i hi

theorem some1_upon {o : Oper} {K : Act → World → Prop} {Q : Exit → Act → World → Prop} {run : Result Next} (rm : RM G base ρ s w) (hkey : key < s.fc * KK) (h : Some1 P ρ base key s w run outs)
    (hK : ∀ v s' u w' ρ', Out.val v s' ∈ outs → Adv base (fun i => i = key) ρ s w ρ' s' w' → RV ρ' v u → K (a.put o.dst u) w')
    (hQ : ∀ v s' u w' ρ', Out.pan v s' ∈ outs → Adv base (fun i => i = key) ρ s w ρ' s' w' → RV ρ' v u → Q (.panic [{ v := u, recovered := false }]) a w') : o.upon P a K Q run := by
  obtain ⟨x, hm, hx⟩ := h
  cases x with
  | val v s' =>
    obtain ⟨ρ', w', h1, h2⟩ := hx.adv rm hkey
    rcases h2 with ⟨u, hr, ru⟩ | ⟨hr, hv⟩
    · rw [hr, Oper.upon_value]; exact hK v s' u w' ρ' hm h1 ru
    · rw [hr, Oper.upon_skip]; exact hK v s' undef w' ρ' hm h1 (by rw [hv]; exact rv_undef _)
  | pan v s' =>
    obtain ⟨u, hr, ru, hs⟩ := hx
    subst hs
    rw [hr, Oper.upon_panic]
    exact hQ v s' u w ρ hm (Adv.refl rm.rh rm.hi) ru

/-- AN OPERATION THAT ACTS, OR A CALL. -/
theorem heavy_sound {call : CallF} (HC : CallOK P G base call) {o : Oper} {K : Act → World → Prop} {Q : Exit → Act → World → Prop} (rm : RM G base ρ s w) (r : RF ρ fr a) (hk : ρ key = none) (hkey : key < s.fc * KK) (h : heavy P call fr key s o.op = some outs)
    (hK : ∀ v s' u w' ρ', Out.val v s' ∈ outs → Adv base (fun i => i = key) ρ s w ρ' s' w' → RV ρ' v u → K (a.put o.dst u) w')
    (hQ : ∀ v s' u w' ρ', Out.pan v s' ∈ outs → Adv base (fun i => i = key) ρ s w ρ' s' w' → RV ρ' v u → Q (.panic [{ v := u, recovered := false }]) a w') : o.upon P a K Q ((execOp a.eval o).run P w) := by
  obtain ⟨dst, op, ty, pos, after, gd⟩ := o
  simp only at h
  unfold heavy at h
  split at h
  · rename_i c
    unfold heavyCall at h
    split at h
    · rename_i b hb
      exact some1_upon rm hkey (builtin_sound hb rm.rh hk rm.bs r h) hK hQ
    · cases ht : target P fr c with
      | none => rw [ht] at h; cases h
      | some q =>
        obtain ⟨f, args⟩ := q
        rw [ht] at h
        obtain ⟨vs, rv, hrun⟩ := target_sound (P := P) (dst := dst) (ty := ty) (pos := pos) (after := after) (gd := gd) (w := w) r ht
        rw [hrun]
        have hm := HC.fn f args s outs h ρ w vs rv rm
        refine hm.upon ?_ ?_ ?_
        · rintro u w' ⟨ρ', ⟨v, s', u', hin, he, ru, hadv⟩ | ⟨v, s', u', hin, he, ru, hadv⟩⟩
          · cases he; exact hK v s' u w' ρ' hin (hadv.mono fun _ _ h => h.elim) ru
          · cases he
        · rintro ch w' ⟨ρ', ⟨v, s', u', hin, he, ru, hadv⟩ | ⟨v, s', u', hin, he, ru, hadv⟩⟩
          · cases he
          · cases he; exact hQ v s' u' w' ρ' hin (hadv.mono fun _ _ h => h.elim) ru
        · rintro w' ⟨ρ', ⟨v, s', u', hin, he, _⟩ | ⟨v, s', u', hin, he, _⟩⟩ <;> cases he
  · exact some1_upon rm hkey (act_sound rm.rh r h) hK hQ
end

/-! ### the frame -/
def RDefF (ρ : Map) (x : AV × List AV) (d : Deferred) : Prop :=
  ∃ g first captured, x.1 = .fn (.func g) first captured ∧ ∃ f' c' a', RVs ρ first f' ∧ RVs ρ captured c' ∧ RVs ρ x.2 a' ∧ d = { target := .fn (.func g) c'.toArray, args := (f' ++ a').toArray }
/-- a deferred call; or the mark of a range over a function -/
def RDef (ρ : Map) (x : AV × List AV) (d : Deferred) : Prop :=
  RDefF ρ x d ∨ ∃ k e, x = (.yl k, []) ∧ ρ k = some e ∧ d = { target := .collected e.b, args := #[] }
def RD (ρ : Map) : List (AV × List AV) → List Deferred → Prop
  | [], l => l = []
  | x :: xs, l => ∃ d ds, RDef ρ x d ∧ RD ρ xs ds ∧ l = d :: ds
theorem RDef.mono {ρ ρ' : Map} (h : Mono ρ ρ') {x : AV × List AV} {d : Deferred} : RDef ρ x d → RDef ρ' x d := by
  rintro (⟨g, fi, ca, e, f', c', a', r1, r2, r3, hd⟩ | ⟨k, e, h1, h2, h3⟩)
  · exact .inl ⟨g, fi, ca, e, f', c', a', RVs.mono h _ _ r1, RVs.mono h _ _ r2, RVs.mono h _ _ r3, hd⟩
  · exact .inr ⟨k, e, h1, h _ _ h2, h3⟩
theorem RD.mono {ρ ρ' : Map} (h : Mono ρ ρ') : ∀ {x : List (AV × List AV)} {l : List Deferred}, RD ρ x l → RD ρ' x l
  | [], _, r => r
  | _ :: _, _, ⟨d, ds, r, rs, e⟩ => ⟨d, ds, r.mono h, RD.mono h rs, e⟩

def RCx (ρ : Map) (rc : Rc) (cs0 cs : List Frame) : Prop :=
  match rc with
  | .no => cs = cs0
  | .idle => cs = cs0 ∧ ∃ c rest, cs0 = c :: rest ∧ c.mode = .returning
  | .live v d => ∃ c rest u, cs0 = c :: rest ∧ RV ρ v u ∧ cs = { c with mode := .panicking [{ v := u, recovered := d }] } :: rest
theorem RCx.mono {ρ ρ' : Map} (h : Mono ρ ρ') {rc : Rc} {cs0 cs : List Frame} (r : RCx ρ rc cs0 cs) : RCx ρ' rc cs0 cs := by
  cases rc with
  | no => exact r
  | idle => exact r
  | live v d => obtain ⟨c, rest, u, h1, h2, h3⟩ := r; exact ⟨c, rest, u, h1, RV.mono h _ _ h2, h3⟩
def FrOK (rc : Rc) (b : Frame) : Prop :=
  match rc with
  | .no => True
  | _ => b.kind = .deferred ∧ b.roundOf = none

/-- the frame and the memory -/
structure RS (G : Glob) (base : Nat) (n : Nat) (ρ : Map) (fr : Fr) (s : St) (a : Act) (w : World) : Prop where
  rf : RF ρ fr a
  rm : RM G base ρ s w
  lo : ∀ i, fr.fno * KK + (fr.lc + n) ≤ i → i < (fr.fno + 1) * KK → ρ i = none
  fn : fr.fno < s.fc
  df : RD ρ fr.df a.defers

/-- the names of the frame -/
abbrev Own (fno : Nat) (i : Nat) : Prop := fno * KK ≤ i ∧ i < (fno + 1) * KK
theorem put_defers (a : Act) (d : Option Tmp) (v : Value) : (a.put d v).defers = a.defers := by cases d <;> rfl
/-- the names that the program must not bear -/
def NoNum (P : Program) : Prop := ∀ (f : FuncId) (fn : Func), P.funcs[f]? = some fn → fn.body.isSome = true → (fn.name == "runtime.NumGoroutine") = false
theorem callFunc_enter (hn : NoNum P) {f : FuncId} {fn : Func} {c : Code} (hf : P.funcs[f]? = some fn) (hb : fn.body = some c) (args : Array Value) (w : World) : (callFunc f args).run P w = .ok (.enter f args) w := by
  have h1 := hn f fn hf (by rw [hb]; rfl)
  have h2 : ¬ fn.name = "runtime.NumGoroutine" := by simpa using h1
  simp [callFunc, hf, h2, hb]

end Go.Ai

