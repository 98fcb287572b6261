/- A part of an evaluator over an abstract heap and of the proof that it is sound for the model. CONDITIONS: those that each theorem names. -/
import Derived.Test.YtneoghpfbgjaiaaGreatDoorAiAlloc
namespace Go.Ai
open Go
variable {P : Program} {ρ : Map} {fr : Fr} {a : Act} {v : AV} {base : Nat}

theorem cell_one {v : AV} {u : Value} (h : isCell v = true) (r : RV ρ v u) : u.oneCell' = true := by
  cases v with
  | agg cs => simp [isCell] at h
  | tup cs => simp [isCell] at h
  | slice i o e l c => obtain ⟨_, _, _, e⟩ := rv_slice_some r; subst e; rfl
  | bool b => simp only [RV] at r; subst r; rfl
  | int k n => simp only [RV] at r; subst r; rfl
  | str s => simp only [RV] at r; subst r; rfl
  | nilp => simp only [RV] at r; subst r; rfl
  | gptr g o => simp only [RV] at r; subst r; rfl
  | nils => simp only [RV] at r; subst r; rfl
  | nilm => simp only [RV] at r; subst r; rfl
  | nilf => simp only [RV] at r; subst r; rfl
  | nili => simp only [RV] at r; subst r; rfl
  | ptr i o => obtain ⟨_, _, e⟩ := r; subst e; rfl
  | map i => obtain ⟨_, _, e⟩ := r; subst e; rfl
  | fn f a c => obtain ⟨_, _, _, _, e⟩ := r; subst e; rfl
  | iface t x => obtain ⟨_, _, e⟩ := r; subst e; rfl
theorem cells_one : ∀ {vs : List AV} {us : List Value}, allCell vs = true → RVs ρ vs us → ∀ u ∈ us, u.oneCell' = true
  | [], us, _, r, u, hu => by simp only [RVs] at r; subst r; cases hu
  | v :: vs, _, h, ⟨x, xs, rx, rs, e⟩, u, hu => by
    subst e
    simp only [allCell] at h
    split at h
    · rename_i hc
      rcases List.mem_cons.1 hu with e | hm
      · subst e; exact cell_one hc rx
      · exact cells_one h rs u hm
    · cases h

theorem run_storeCells_fill (g o : Nat) (t : TypeId) (fz : Nat × Nat) : ∀ (vs : List Value) (i : Nat) (cur : Array Value) (w : World), w.heap[g]? = some (.cells cur t fz) → o + i + vs.length ≤ cur.size →
    (cur.size ≤ fz.1 ∨ fz.2 ≤ fz.1) → (∀ v ∈ vs, v.oneCell' = true) →
    (storeCells ⟨g, o, none⟩ vs i).run P w = .ok () (w.setRow g (fillA cur.toList (o + i) vs).toArray)
  | [], i, cur, w, hg, _, _, _ => by
    simp only [storeCells, fillA_nil, Array.toArray_toList]
    rw [setRow_self w g cur t fz hg]
    rfl
  | v :: rest, i, cur, w, hg, hl, hf, h1 => by
    have hi : o + i < cur.size := by simp at hl; omega
    have hadd : (⟨g, o, none⟩ : Addr).add i = ⟨g, o + i, none⟩ := add_none _ _ _
    have hcell : w.cell? ⟨g, o + i, none⟩ = some cur[o + i] := by simp [World.cell?, hg, hi]
    have hfro : w.frozen? ⟨g, o + i, none⟩ = false := by
      obtain ⟨lo, hi'⟩ := fz
      simp only at hf
      simp only [World.frozen?, hg]
      rcases hf with hf | hf
      · have : ¬ lo ≤ o + i := by omega
        simp [this]
      · by_cases h : lo ≤ o + i
        · have : ¬ o + i < hi' := by omega
          simp [this]
        · simp [h]
    have hst : (store ((⟨g, o, none⟩ : Addr).add i) v).run P w = .ok () (w.setRow g (cur.setIfInBounds (o + i) v)) := by
      rw [hadd, run_store P w _ v _ (h1 v (by simp)), hcell]
      simp [hfro, setCell_eq_setRow w g (o + i) cur t fz v hg]
    have ih := run_storeCells_fill g o t fz rest (i + 1) (cur.setIfInBounds (o + i) v) (w.setRow g (cur.setIfInBounds (o + i) v)) (setRow_heap w g cur _ t _ hg) (by simp at hl ⊢; omega) (by simpa using hf) (fun x hx => h1 x (by simp [hx]))
    simp only [storeCells, Sem.run_bind, hst, Result.andThen_ok, ih, setRow_setRow]
    congr 3
    rw [fillA_cons]
    simp [Nat.add_assoc]

theorem fillA_get {α : Type} : ∀ (vs cs : List α) (n i : Nat), n + vs.length ≤ cs.length → (fillA cs n vs)[i]? = if n ≤ i ∧ i < n + vs.length then vs[i - n]? else cs[i]?
  | [], cs, n, i, h => by rw [fillA_nil, if_neg (by simp only [List.length_nil]; omega)]
  | v :: vs, cs, n, i, h => by
    rw [fillA_cons, fillA_get vs (cs.set n v) (n + 1) i (by simp at h ⊢; omega)]
    simp only [List.length_cons] at h ⊢
    by_cases h1 : n + 1 ≤ i ∧ i < n + 1 + vs.length
    · rw [if_pos h1, if_pos (by omega), show i - n = (i - (n + 1)) + 1 by omega]
      simp
    · rw [if_neg h1]
      by_cases h2 : i = n
      · subst h2
        rw [if_pos (by omega)]
        simp [List.getElem?_set]; omega
      · rw [if_neg (by omega)]
        simp [Ne.symm h2]

/-- one block is another now -/
theorem RH.upd {g : GetF} {w w' : World} (r : RH ρ base g w) {id : Nat} {ab ab' : AB} {e : Ent} {ob' : Obj} (hg : g id = some ab) (hd : ab ≠ .dead) (he : ρ id = some e)
    (hb : w'.heap[e.b]? = some ob') (ho : ∀ b, b ≠ e.b → w'.heap[b]? = w.heap[b]?) (rb : RB ρ e ab' ob') : RH ρ base (fun i => if i = id then some ab' else g i) w' := by
  refine ⟨fun i x hi hx => ?_, fun i j e1 e2 li lj hi hj hbb => ?_⟩
  · split at hi
    · rename_i heq
      subst heq
      cases hi
      obtain ⟨e', _, h1, h2, _⟩ := r.blk i ab hg hd
      rw [he] at h1; cases h1
      exact ⟨e, ob', he, h2, hb, rb⟩
    · rename_i hne
      obtain ⟨e', ob, h1, h2, h3, h4⟩ := r.blk i x hi hx
      have hne' : e'.b ≠ e.b := fun h => hne (r.inj i id e' e ⟨x, hi, hx⟩ ⟨ab, hg, hd⟩ h1 he h)
      exact ⟨e', ob, h1, h2, by rw [ho _ hne']; exact h3, h4⟩
  · have live' : ∀ k, live (fun i => if i = id then some ab' else g i) k → live g k := by
      rintro k ⟨x, hx, hdx⟩
      simp only at hx
      split at hx
      · rename_i heq; subst heq; exact ⟨ab, hg, hd⟩
      · exact ⟨x, hx, hdx⟩
    exact r.inj i j e1 e2 (live' i li) (live' j lj) hi hj hbb

theorem hget_upd (h : Heap) (k : Nat) (b : AB) : hget (hset h k b) = fun i => if i = k then some b else hget h i := by
  funext i; exact hget_hset h k i b

theorem writeCells_eq {h h' : Heap} {id off : Nat} {vs : List AV} (hw : writeCells h id off vs = some h') : ∃ cs m es, hget h id = some (.row cs m es) ∧ off + vs.length ≤ m ∧ allCell vs = true ∧ h' = hset h id (.row (cs.setList off vs) m es) := by
  unfold writeCells at hw
  split at hw
  · rename_i cs m es hg
    split at hw
    · rename_i hb
      simp only [Bool.and_eq_true, Nat.ble_eq] at hb
      simp only [T.setListC_eq, hsetC_eq, Option.some.injEq] at hw
      exact ⟨cs, m, es, hg, hb.1, hb.2, hw.symm⟩
    · cases hw
  · cases hw

theorem write_sound {h h' : Heap} {w : World} (r : RH ρ base (hget h) w) {id off : Nat} {vs : List AV} (hw : writeCells h id off vs = some h') {e : Ent} (he : ρ id = some e) {us : List Value} (ru : RVs ρ vs us) :
    ∃ w', (storeCells ⟨e.b, e.o + off, none⟩ us).run P w = .ok () w' ∧ RH ρ base (hget h') w' ∧ Keeps (fun b => b = e.b) w w' ∧ w'.heap.size = w.heap.size ∧ (∀ i, live (hget h') i ↔ live (hget h) i) := by
  obtain ⟨cs, m, es, hg, hm, hc, rfl⟩ := writeCells_eq hw
  obtain ⟨e', ob, h1, h2, h3, c, ty, lo, hi, h4, h5, h6, h7, h8, h9⟩ := r.blk id _ hg (by simp)
  rw [he] at h1; cases h1
  subst h4
  have hl := RVs.length ru
  have hrun := run_storeCells_fill (P := P) e.b (e.o + off) ty (lo, hi) us 0 c w h3 (by omega) h8 (cells_one hc ru)
  have hcs := setRow_heap w e.b c (fillA c.toList (e.o + off) us).toArray ty (lo, hi) h3
  refine ⟨_, hrun, ?_, ⟨rfl, rfl, rfl, by simp, fun b _ hb => setRow_other w e.b b _ hb⟩, by simp, fun i => ?_⟩
  · rw [hget_upd]
    refine r.upd hg (by simp) he hcs (fun b hb => setRow_other w e.b b _ hb) ?_
    refine ⟨_, ty, lo, hi, rfl, by simp [fillA_length]; omega, by simp [fillA_length]; omega, h7, by simpa [fillA_length] using h8, fun i hi' av hav => ?_⟩
    rw [T.get_setList] at hav
    simp only [List.getElem?_toArray]
    rw [fillA_get us c.toList (e.o + off) (e.o + i) (by simp; omega)]
    by_cases hin : off ≤ i ∧ i < off + vs.length
    · rw [if_pos hin] at hav
      rw [if_pos (by omega), show e.o + i - (e.o + off) = i - off by omega]
      exact RVs.get ru _ av hav
    · rw [if_neg hin] at hav
      rw [if_neg (by omega)]
      simpa using h9 i hi' av hav
  · simp only [live, hget_upd]
    constructor
    · rintro ⟨x, hx, hd⟩
      split at hx
      · rename_i heq; subst heq; exact ⟨_, hg, by simp⟩
      · exact ⟨x, hx, hd⟩
    · rintro ⟨x, hx, hd⟩
      by_cases heq : i = id
      · subst heq; exact ⟨.row (cs.setList off vs) m es, by rw [if_pos rfl], by simp⟩
      · exact ⟨x, by rw [if_neg heq]; exact hx, hd⟩
end Go.Ai
