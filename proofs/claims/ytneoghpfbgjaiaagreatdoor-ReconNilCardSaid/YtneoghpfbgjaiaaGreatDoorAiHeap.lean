/- A part of an evaluator over an abstract heap and of the proof that it is sound for the model. CONDITIONS: those that each theorem names. -/
import Derived.Test.YtneoghpfbgjaiaaGreatDoorAiPure5
namespace Go.Ai
open Go
variable {P : Program} {ρ : Map}

/-! ### what stands for what in memory -/
def REs (ρ : Map) : List (AV × AV × Nat) → List MapEntry → Prop
  | [], l => l = []
  | (k, v, b) :: r, l => ∃ k' v' l', RV ρ k k' ∧ RV ρ v v' ∧ REs ρ r l' ∧ l = ⟨k', v', b⟩ :: l'

def RB (ρ : Map) (e : Ent) : AB → Obj → Prop
  | .dead, _ => True
  | .row cs n es, ob => ∃ (c : Array Value) (ty : TypeId) (lo hi : Nat), ob = .cells c ty (lo, hi) ∧ e.o + n ≤ c.size ∧ e.o + e.k * es ≤ c.size ∧ (0 < es → n ≤ e.k * es) ∧ (c.size ≤ lo ∨ hi ≤ lo) ∧
      ∀ i, i < n → ∀ av, cs.get i = some av → ∃ v, c[e.o + i]? = some v ∧ RV ρ av v
  | .map es clock, ob => ∃ ents : Array MapEntry, ob = .map ents clock ∧ REs ρ es ents.toList
  | .mit m since seen stepped, ob => ∃ m', e.o = 0 ∧ ob = .mapIter m' since seen.toArray stepped ∧
      match m with
      | none => m' = none
      | some id => ∃ e', ρ id = some e' ∧ m' = some e'.b

theorem REs.mono {ρ ρ' : Map} (h : Mono ρ ρ') : ∀ {es : List (AV × AV × Nat)} {l : List MapEntry}, REs ρ es l → REs ρ' es l
  | [], _, r => r
  | (_, _, _) :: _, _, ⟨k', v', l', rk, rv, rs, e⟩ => ⟨k', v', l', RV.mono h _ _ rk, RV.mono h _ _ rv, REs.mono h rs, e⟩
theorem RB.mono {ρ ρ' : Map} (h : Mono ρ ρ') {e : Ent} {ab : AB} {ob : Obj} (r : RB ρ e ab ob) : RB ρ' e ab ob := by
  cases ab with
  | dead => trivial
  | row cs n es =>
    obtain ⟨c, ty, lo, hi, e1, h1, h2, h3, h4, h5⟩ := r
    exact ⟨c, ty, lo, hi, e1, h1, h2, h3, h4, fun i hi av ha => let ⟨v, hv, rv⟩ := h5 i hi av ha; ⟨v, hv, RV.mono h _ _ rv⟩⟩
  | map es clock => obtain ⟨ents, e1, r⟩ := r; exact ⟨ents, e1, REs.mono h r⟩
  | mit m since seen stepped =>
    obtain ⟨m', e0, e1, r⟩ := r
    refine ⟨m', e0, e1, ?_⟩
    cases m with
    | none => exact r
    | some id => obtain ⟨e', he, hm⟩ := r; exact ⟨e', h _ _ he, hm⟩

abbrev GetF := Nat → Option AB

def live (g : GetF) (i : Nat) : Prop := ∃ ab, g i = some ab ∧ ab ≠ .dead

/-- The package-level variables that are known. -/
def RG (G : Glob) (base : Nat) (w : World) : Prop :=
  ∀ g l, gget G g = some l → g < base ∧ ∃ (c : Array Value) (ty : TypeId) (fz : Nat × Nat), w.heap[g]? = some (.cells c ty fz) ∧
    ∀ (i : Nat) (av : AV), l[i]? = some av → ∃ v, c[i]? = some v ∧ RV (fun _ => none) av v

/-- The blocks of an abstract heap, in the world. -/
structure RH (ρ : Map) (base : Nat) (g : GetF) (w : World) : Prop where
  blk : ∀ i ab, g i = some ab → ab ≠ .dead → ∃ e ob, ρ i = some e ∧ base ≤ e.b ∧ w.heap[e.b]? = some ob ∧ RB ρ e ab ob
  inj : ∀ i j e e', live g i → live g j → ρ i = some e → ρ j = some e' → e.b = e'.b → i = j

theorem RH.mono {ρ ρ' : Map} (h : Mono ρ ρ') {base : Nat} {g : GetF} {w : World} (r : RH ρ base g w) : RH ρ' base g w := by
  refine ⟨fun i ab hi hd => ?_, fun i j e e' li lj hi hj he => ?_⟩
  · obtain ⟨e, ob, h1, h2, h3, h4⟩ := r.blk i ab hi hd
    exact ⟨e, ob, h _ _ h1, h2, h3, h4.mono h⟩
  · obtain ⟨ab, gi, di⟩ := li
    obtain ⟨ab', gj, dj⟩ := lj
    obtain ⟨e1, _, h1, _⟩ := r.blk i ab gi di
    obtain ⟨e2, _, h2, _⟩ := r.blk j ab' gj dj
    have a1 := h _ _ h1
    have a2 := h _ _ h2
    rw [hi] at a1; rw [hj] at a2
    cases a1; cases a2
    exact r.inj i j e e' ⟨ab, gi, di⟩ ⟨ab', gj, dj⟩ h1 h2 he

/-- fewer blocks -/
theorem RH.sub {ρ : Map} {base : Nat} {g g' : GetF} {w : World} (r : RH ρ base g w) (h : ∀ i ab, g' i = some ab → ab ≠ .dead → g i = some ab) : RH ρ base g' w :=
  ⟨fun i ab hi hd => r.blk i ab (h i ab hi hd) hd, fun i j e e' ⟨a, ga, da⟩ ⟨b, gb, db⟩ => r.inj i j e e' ⟨a, h i a ga da, da⟩ ⟨b, h j b gb db, db⟩⟩

/-- the concrete blocks of an abstract heap -/
def owns (ρ : Map) (g : GetF) (b : Nat) : Prop := ∃ i e, live g i ∧ ρ i = some e ∧ e.b = b

/-- From w to w', where the blocks of g may be written: all other memory is as it was. -/
structure Keeps (own : Nat → Prop) (w w' : World) : Prop where
  os : w'.os = w.os
  tape : w'.tape = w.tape
  output : w'.output = w.output
  size : w.heap.size ≤ w'.heap.size
  block : ∀ b, b < w.heap.size → ¬ own b → w'.heap[b]? = w.heap[b]?

theorem Keeps.refl (own : Nat → Prop) (w : World) : Keeps own w w := ⟨rfl, rfl, rfl, Nat.le_refl _, fun _ _ _ => rfl⟩
theorem Keeps.trans {o1 o2 : Nat → Prop} {a b c : World} (h : Keeps o1 a b) (k : Keeps o2 b c) (ho : ∀ x, o2 x → o1 x ∨ a.heap.size ≤ x) : Keeps o1 a c :=
  ⟨k.os.trans h.os, k.tape.trans h.tape, k.output.trans h.output, Nat.le_trans h.size k.size, fun x hx hn =>
    (k.block x (Nat.lt_of_lt_of_le hx h.size) (fun h2 => (ho x h2).elim hn (fun hge => by omega))).trans (h.block x hx hn)⟩
theorem Keeps.drew (own : Nat → Prop) (w : World) : Keeps own w w.drew := ⟨rfl, rfl, rfl, Nat.le_refl _, fun _ _ _ => rfl⟩
theorem RG.keeps {G : Glob} {base : Nat} {w w' : World} (h : RG G base w) {own : Nat → Prop} (k : Keeps own w w') (ho : ∀ b, own b → base ≤ b) : RG G base w' := by
  intro g l hg
  obtain ⟨hb, c, ty, fz, hc, hv⟩ := h g l hg
  refine ⟨hb, c, ty, fz, ?_, hv⟩
  have hlt : g < w.heap.size := by
    rcases Nat.lt_or_ge g w.heap.size with h | h
    · exact h
    · rw [Array.getElem?_eq_none h] at hc; cases hc
  rw [k.block g hlt (fun hw => by have := ho g hw; omega)]; exact hc
theorem RH.size {base : Nat} {g : GetF} {w : World} (r : RH ρ base g w) {i : Nat} {ab : AB} (h : g i = some ab) (hd : ab ≠ .dead) {e : Ent} (he : ρ i = some e) : e.b < w.heap.size := by
  obtain ⟨e', ob, h1, _, h3, _⟩ := r.blk i ab h hd
  rw [he] at h1; cases h1
  rcases Nat.lt_or_ge e.b w.heap.size with h | h
  · exact h
  · rw [Array.getElem?_eq_none h] at h3; cases h3
theorem owns_base {base : Nat} {g : GetF} {w : World} (r : RH ρ base g w) : ∀ b, owns ρ g b → base ≤ b := by
  rintro b ⟨i, e, ⟨ab, gi, di⟩, he, rfl⟩
  obtain ⟨e', ob, h1, h2, _⟩ := r.blk i ab gi di
  rw [he] at h1; cases h1; exact h2

/-! ### reading -/
theorem rowGet_spec {cs : T AV} : ∀ {n off : Nat} {l : List AV}, rowGet cs off n = some l → l.length = n ∧ ∀ j, j < n → cs.get (off + j) = l[j]?
  | 0, off, l, h => by simp [rowGet] at h; subst h; exact ⟨rfl, fun j hj => by omega⟩
  | n + 1, off, l, h => by
    simp only [rowGet] at h
    split at h
    · rename_i v hv
      split at h
      · rename_i vs hvs
        cases h
        obtain ⟨h1, h2⟩ := rowGet_spec hvs
        refine ⟨by simp [h1], fun j hj => ?_⟩
        cases j with
        | zero => simpa using hv
        | succ j => have := h2 j (by omega); rw [show off + (j + 1) = off + 1 + j by omega]; simpa using this
      · cases h
    · cases h

theorem cell_row {w : World} {b o : Nat} {c : Array Value} {ty : TypeId} {fz : Nat × Nat} (h : w.heap[b]? = some (.cells c ty fz)) : w.cell? ⟨b, o, none⟩ = c[o]? := by
  simp [World.cell?, h]

theorem rvs_of_get {ρ : Map} : ∀ {l : List AV} {f : Nat → Option Value}, (∀ (j : Nat) (av : AV), l[j]? = some av → ∃ v, f j = some v ∧ RV ρ av v) → ∃ vs, RVs ρ l vs ∧ ∀ (j : Nat) (v : Value), vs[j]? = some v → f j = some v
  | [], f, _ => ⟨[], by simp [RVs], by simp⟩
  | a :: l, f, h => by
    obtain ⟨v, hv, rv⟩ := h 0 a (by simp)
    obtain ⟨vs, rs, hs⟩ := rvs_of_get (l := l) (f := fun j => f (j + 1)) (fun j av hj => h (j + 1) av (by simpa using hj))
    refine ⟨v :: vs, ⟨v, vs, rv, rs, rfl⟩, fun j u hj => ?_⟩
    cases j with
    | zero => simp at hj; subst hj; exact hv
    | succ j => exact hs j u (by simpa using hj)

/-- cells of a block -/
theorem readCells_rv {base : Nat} {h : Heap} {w : World} (r : RH ρ base (hget h) w) {id off n : Nat} {cs : List AV} (hr : readCells h id off n = some cs) {e : Ent} (he : ρ id = some e) :
    cs.length = n ∧ ∃ vs, RVs ρ cs vs ∧ ∀ j v, vs[j]? = some v → w.cell? ((Addr.mk e.b (e.o + off) none).add j) = some v := by
  unfold readCells at hr
  split at hr
  · rename_i t m es hg
    split at hr
    · rename_i hle
      have hle' : off + n ≤ m := by simpa using hle
      obtain ⟨hl, hget⟩ := rowGet_spec hr
      obtain ⟨e', ob, h1, h2, h3, c, ty, lo, hi, h4, h5, h6, h7, h8, h9⟩ := r.blk id _ hg (by simp)
      rw [he] at h1; cases h1
      subst h4
      refine ⟨hl, ?_⟩
      obtain ⟨vs, rs, hs⟩ := rvs_of_get (ρ := ρ) (l := cs) (f := fun j => c[e.o + off + j]?) (fun j av hj => by
        have hjn : j < n := by
          rcases Nat.lt_or_ge j n with h | h
          · exact h
          · rw [List.getElem?_eq_none (by omega)] at hj; cases hj
        have := hget j hjn
        rw [hj] at this
        obtain ⟨v, hv, rv⟩ := h9 (off + j) (by omega) av this
        exact ⟨v, by rw [Nat.add_assoc]; exact hv, rv⟩)
      refine ⟨vs, rs, fun j v hj => ?_⟩
      rw [add_none, cell_row h3]
      exact hs j v hj
    · cases hr
  · cases hr

theorem readAt_rv {G : Glob} {base : Nat} {h : Heap} {w : World} (r : RH ρ base (hget h) w) (rg : RG G base w) {v : AV} {n : Nat} {cs : List AV} (hr : readAt G h v n = some cs) {x : Value} (rx : RV ρ v x) :
    cs.length = n ∧ ∃ ad vs, x = .pointer (some ad) ∧ RVs ρ cs vs ∧ ∀ j u, vs[j]? = some u → w.cell? (ad.add j) = some u := by
  unfold readAt at hr
  split at hr
  · obtain ⟨e, he, hx⟩ := rx
    obtain ⟨hl, vs, rs, hs⟩ := readCells_rv r hr he
    exact ⟨hl, _, vs, hx, rs, hs⟩
  · rename_i g off
    simp only [RV] at rx
    split at hr
    · rename_i l hg
      split at hr
      · rename_i hle
        cases hr
        have hle' : off + n ≤ l.length := by simpa using hle
        obtain ⟨_, c, ty, fz, hc, hv⟩ := rg g l hg
        refine ⟨by simp; omega, ⟨g, off, none⟩, ?_⟩
        obtain ⟨vs, rs, hs⟩ := rvs_of_get (ρ := ρ) (l := (l.drop off).take n) (f := fun j => c[off + j]?) (fun j av hj => by
          have : l[off + j]? = some av := by
            rw [List.getElem?_take] at hj
            split at hj
            · simpa using hj
            · cases hj
          obtain ⟨u, hu, ru⟩ := hv _ _ this
          exact ⟨u, hu, RV.mono (fun _ _ h => by cases h) _ _ ru⟩)
        refine ⟨vs, rx, rs, fun j u hj => ?_⟩
        rw [add_none, cell_row hc]
        exact hs j u hj
      · cases hr
    · cases hr
  · cases hr

theorem loadA_rv {G : Glob} {base : Nat} {h : Heap} {w : World} (r : RH ρ base (hget h) w) (rg : RG G base w) {t : TypeId} {v p : AV} (hr : loadA P G h t p = some v) {x : Value} (rx : RV ρ p x) :
    ∃ u, (Instr.loadAt t x).run P w = .ok u w ∧ RV ρ v u ∧ ∃ ad, x = .pointer (some ad) ∧ (loadVar t ad).run P w = .ok u w := by
  unfold loadA at hr
  split at hr
  · rename_i ha
    split at hr
    · rename_i n hn
      split at hr
      · rename_i cs hcs
        cases hr
        obtain ⟨hl, ad, vs, hx, rs, hs⟩ := readAt_rv r rg hcs rx
        have hlen : vs.length = n := by rw [← RVs.length rs, hl]
        have e : (loadVar t ad).run P w = .ok (.agg vs.toArray) w := by
          simp only [loadVar, Sem.run_bind, run_isAggT ha, Result.andThen_ok, if_true, run_sizeT hn]
          rw [← hlen, run_loadCells_list (P := P) w ad vs hs]
          rfl
        refine ⟨.agg vs.toArray, ?_, ⟨vs, rs, rfl⟩, ad, hx, e⟩
        simp only [Instr.loadAt, Sem.run_bind, hx, Instr.sureAddr, Sem.run_pure, Result.andThen_ok, e]
      · cases hr
    · cases hr
  · rename_i ha
    split at hr
    · rename_i c hc
      cases hr
      obtain ⟨hl, ad, vs, hx, ⟨u, us, ru, rs, hvs⟩, hs⟩ := readAt_rv r rg hc rx
      subst hvs
      have hcell : w.cell? ad = some u := by
        have := hs 0 u (by simp)
        simpa [Addr.add] using this
      have e : (loadVar t ad).run P w = .ok u w := by
        simp only [loadVar, Sem.run_bind, run_isAggT ha, Result.andThen_ok, Bool.false_eq_true, if_false, run_load, hcell]
      refine ⟨u, ?_, ru, ad, hx, e⟩
      simp only [Instr.loadAt, Sem.run_bind, hx, Instr.sureAddr, Sem.run_pure, Result.andThen_ok, e]
    · cases hr
  · cases hr

end Go.Ai
