/- A part of an evaluator over an abstract heap and of the proof that it is sound for the model. CONDITIONS: those that each theorem names. -/
import Derived.Test.YtneoghpfbgjaiaaGreatDoorAiWrite
namespace Go.Ai
open Go
variable {P : Program} {ρ : Map} {fr : Fr} {a : Act} {base : Nat}

/-! ### keys that stay -/
theorem keyS_same {k : AV} (h : isKeyS k = true) {u u' : Value} (r : RV ρ k u) (r' : RV ρ k u') : u = u' ∧ ∀ n, Instr.sameBits n u u = true := by
  cases k with
  | bool b => simp only [RV] at r r'; subst r r'; exact ⟨rfl, fun n => by cases n <;> simp [Instr.sameBits]⟩
  | int k n => simp only [RV] at r r'; subst r r'; exact ⟨rfl, fun n => by cases n <;> simp [Instr.sameBits]⟩
  | str s => simp only [RV] at r r'; subst r r'; exact ⟨rfl, fun n => by cases n <;> simp [Instr.sameBits, beq_bytes]⟩
  | _ => simp [isKeyS] at h
theorem keyS_all : ∀ {l : List AV} {us us' : List Value}, allKeyS l = true → RVs ρ l us → RVs ρ l us' → us = us' ∧ ∀ n, (us.zip us).all (fun (x, y) => Instr.sameBits n x y) = true
  | [], us, us', _, r, r' => by simp only [RVs] at r r'; subst r r'; simp
  | v :: vs, _, _, h, ⟨x, xs, rx, rs, e⟩, ⟨y, ys, ry, rs', e'⟩ => by
    subst e e'
    simp only [allKeyS] at h
    split at h
    · rename_i hs
      obtain ⟨h1, h2⟩ := keyS_same hs rx ry
      obtain ⟨h3, h4⟩ := keyS_all h rs rs'
      subst h1 h3
      refine ⟨rfl, fun n => ?_⟩
      have := h4 n
      simp only [List.zip_cons_cons, List.all_cons, h2 n, Bool.true_and]
      exact this
    · cases h
theorem key_same {k : AV} (h : isKey k = true) {u u' : Value} (r : RV ρ k u) (r' : RV ρ k u') : u = u' ∧ ∀ n, Instr.sameBits (n + 1) u u = true := by
  cases k with
  | agg l =>
    obtain ⟨us, rs, e⟩ := r
    obtain ⟨us', rs', e'⟩ := r'
    obtain ⟨h1, h2⟩ := keyS_all (l := l) h rs rs'
    subst h1 e e'
    refine ⟨rfl, fun n => ?_⟩
    simp only [Instr.sameBits, beq_self_eq_true, Bool.true_and]
    exact h2 n
  | bool _ | int _ _ | str _ =>
    obtain ⟨h1, h2⟩ := keyS_same (by simp [isKeyS]) r r'
    exact ⟨h1, fun n => h2 (n + 1)⟩
  | _ => simp [isKey, isKeyS] at h

mutual
theorem avEq_eq : ∀ {a b : AV}, avEq a b = true → a = b
  | .bool a, b, h => by cases b <;> simp [avEq] at h; rw [h]
  | .int k a, b, h => by cases b <;> simp [avEq] at h; rw [h.1, h.2]
  | .str a, b, h => by cases b <;> simp [avEq] at h; rw [h]
  | .nilp, b, h => by cases b <;> simp [avEq] at h; rfl
  | .ptr i o, b, h => by cases b <;> simp [avEq] at h; rw [h.1, h.2]
  | .gptr i o, b, h => by cases b <;> simp [avEq] at h; rw [h.1, h.2]
  | .nils, b, h => by cases b <;> simp [avEq] at h; rfl
  | .slice i o e l c, b, h => by
    cases b <;> simp [avEq] at h
    obtain ⟨⟨⟨⟨h1, h2⟩, h3⟩, h4⟩, h5⟩ := h
    rw [h1, h2, h3, h4, h5]
  | .nilm, b, h => by cases b <;> simp [avEq] at h; rfl
  | .map i, b, h => by cases b <;> simp [avEq] at h; rw [h]
  | .fn f x y, b, h => by cases b <;> simp [avEq] at h; rw [h.1.1, avsEq_eq h.1.2, avsEq_eq h.2]
  | .nilf, b, h => by cases b <;> simp [avEq] at h; rfl
  | .iface t v, b, h => by cases b <;> simp [avEq] at h; rw [h.1, avEq_eq h.2]
  | .nili, b, h => by cases b <;> simp [avEq] at h; rfl
  | .agg a, b, h => by cases b <;> simp [avEq] at h; rw [avsEq_eq h]
  | .tup a, b, h => by cases b <;> simp [avEq] at h; rw [avsEq_eq h]
theorem avsEq_eq : ∀ {a b : List AV}, avsEq a b = true → a = b
  | [], [], _ => rfl
  | [], _ :: _, h => by simp [avsEq] at h
  | _ :: _, [], h => by simp [avsEq] at h
  | a :: l, b :: r, h => by simp [avsEq] at h; rw [avEq_eq h.1, avsEq_eq h.2]
end

/-! ### a step -/
structure Stp (ρ : Map) (base : Nat) (g : GetF) (w : World) (ρ' : Map) (g' : GetF) (w' : World) : Prop where
  mono : Mono ρ ρ'
  keeps : Keeps (owns ρ g) w w'
  rh : RH ρ' base g' w'
  grow : ∀ b, owns ρ' g' b → owns ρ g b ∨ w.heap.size ≤ b

theorem Stp.same {g : GetF} {w : World} (r : RH ρ base g w) : Stp ρ base g w ρ g w := ⟨Mono.refl ρ, Keeps.refl _ _, r, fun _ h => .inl h⟩
theorem Stp.draw {g : GetF} {w : World} (r : RH ρ base g w) : Stp ρ base g w ρ g w.drew := ⟨Mono.refl ρ, Keeps.drew _ _, ⟨r.blk, r.inj⟩, fun _ h => .inl h⟩
theorem Stp.trans {ρ1 ρ2 : Map} {g g1 g2 : GetF} {w w1 w2 : World} (h : Stp ρ base g w ρ1 g1 w1) (k : Stp ρ1 base g1 w1 ρ2 g2 w2) : Stp ρ base g w ρ2 g2 w2 :=
  ⟨h.mono.trans k.mono, h.keeps.trans k.keeps h.grow, k.rh, fun b hb => (k.grow b hb).elim (h.grow b) (fun hs => .inr (Nat.le_trans h.keeps.size hs))⟩

/-- one block of the heap is written -/
theorem Stp.upd {h : Heap} {w w' : World} (r : RH ρ base (hget h) w) {id : Nat} {ab ab' : AB} {e : Ent} {ob' : Obj} (hg : hget h id = some ab) (hd : ab ≠ .dead) (he : ρ id = some e)
    (hos : w'.os = w.os) (htp : w'.tape = w.tape) (hou : w'.output = w.output) (hsz : w'.heap.size = w.heap.size)
    (hb : w'.heap[e.b]? = some ob') (ho : ∀ b, b ≠ e.b → w'.heap[b]? = w.heap[b]?) (rb : RB ρ e ab' ob') : Stp ρ base (hget h) w ρ (hget (hset h id ab')) w' := by
  have hl : live (hget h) id := ⟨ab, hg, hd⟩
  refine ⟨Mono.refl ρ, ⟨hos, htp, hou, by omega, fun b _ hn => ho b (fun e' => hn ⟨id, e, hl, he, e'.symm⟩)⟩, ?_, ?_⟩
  · rw [hget_upd]; exact r.upd hg hd he hb ho rb
  · rintro b ⟨i, e', ⟨x, hx, hdx⟩, hi, hbb⟩
    left
    rw [hget_upd] at hx
    simp only at hx
    split at hx
    · rename_i heq; subst heq; exact ⟨i, e', hl, hi, hbb⟩
    · exact ⟨i, e', ⟨x, hx, hdx⟩, hi, hbb⟩

def AO (_P : Program) (ρ : Map) (base key : Nat) (s : St) (w : World) (run : Result Next) : Out → Prop
  | .val v s' => ∃ ρ' w', Stp ρ base (hget s.h) w ρ' (hget s'.h) w' ∧ (∀ i, i ≠ key → ρ' i = ρ i) ∧ s'.fc = s.fc ∧ ((∃ u, run = .ok (.value u) w' ∧ RV ρ' v u) ∨ (run = .ok .skip w' ∧ v = .undef))
  | .pan v s' => ∃ u, run = .halt (.panic u) w ∧ RV ρ v u ∧ s' = s

/-- One of the outcomes comes about. -/
def Some1 (P : Program) (ρ : Map) (base key : Nat) (s : St) (w : World) (run : Result Next) (outs : List Out) : Prop := ∃ o ∈ outs, AO P ρ base key s w run o

theorem run_setObj {w : World} {b : Nat} {o o' : Obj} (h : w.heap[b]? = some o) (hn : ∀ c t f, o ≠ .cells c t f) :
    (setObj b o').run P w = .ok () { w with heap := w.heap.setIfInBounds b o' } := by
  cases o <;> simp_all [setObj, Sem.run]
theorem setObj_heap {w : World} {b : Nat} {o o' : Obj} (h : w.heap[b]? = some o) : (w.heap.setIfInBounds b o')[b]? = some o' ∧ (∀ c, c ≠ b → (w.heap.setIfInBounds b o')[c]? = w.heap[c]?) := by
  have hlt : b < w.heap.size := (Array.getElem?_eq_some_iff.1 h).1
  refine ⟨by simp [hlt], fun c hc => by simp [Array.getElem?_setIfInBounds_ne (Ne.symm hc)]⟩

section
variable {key : Nat} {s : St} {w : World} {outs : List Out}

theorem oneOut_spec {v : AV} {o : Option St} (h : oneOut v o = some outs) : ∃ s', o = some s' ∧ outs = [.val v s'] := by
  unfold oneOut at h
  split at h
  · cases h; exact ⟨_, rfl, rfl⟩
  · cases h
theorem upH_spec {o : Option Heap} {s' : St} (h : upH s o = some s') : ∃ h', o = some h' ∧ s' = ⟨h', s.fc⟩ := by
  unfold upH at h
  split at h
  · cases h; exact ⟨_, rfl, St.withH_eq _ _⟩
  · cases h

/-- cells written -/
theorem Stp.write {h h' : Heap} {w : World} (r : RH ρ base (hget h) w) {id off : Nat} {vs : List AV} (hw : writeCells h id off vs = some h') {e : Ent} (he : ρ id = some e) {us : List Value} (ru : RVs ρ vs us) :
    ∃ w', (storeCells ⟨e.b, e.o + off, none⟩ us).run P w = .ok () w' ∧ Stp ρ base (hget h) w ρ (hget h') w' := by
  obtain ⟨w', h1, h2, h3, h4, h5⟩ := write_sound (P := P) r hw he ru
  refine ⟨w', h1, Mono.refl ρ, ⟨h3.os, h3.tape, h3.output, h3.size, fun b hb hn => h3.block b hb (fun e' => hn ?_)⟩, h2, ?_⟩
  · obtain ⟨cs, m, es, hg, _⟩ := writeCells_eq hw
    exact ⟨id, e, ⟨_, hg, by simp⟩, he, e'.symm⟩
  · rintro b ⟨i, e', hl, hi, hbb⟩
    exact .inl ⟨i, e', (h5 i).1 hl, hi, hbb⟩

theorem a_store {t : TypeId} {x y : Operand} (rh : RH ρ base (hget s.h) w) (r : RF ρ fr a) (h : aSt s (fr.ev x) (fr.ev y) (sizeT P t) = some outs) {dst : Option Tmp} {ty : TypeId} {pos : String} {after : Array Edge} {gd : Option (Nat × Bool)} :
    Some1 P ρ base key s w ((execOp a.eval ⟨dst, .store t x y, ty, pos, after, gd⟩).run P w) outs := by
  unfold aSt at h
  split at h
  · rename_i id off v n hx hy hn
    split at h
    · rename_i hb
      have hb := Nat.eq_of_beq_eq_true hb
      obtain ⟨s', ho, rfl⟩ := oneOut_spec h
      obtain ⟨h', hw, rfl⟩ := upH_spec ho
      obtain ⟨e, he, hax⟩ := r.ev hx
      have rv := r.ev hy
      have rc := cells_rv rv
      obtain ⟨w', hr, hs⟩ := Stp.write (P := P) rh hw he rc
      refine ⟨_, List.mem_singleton.2 rfl, ρ, w', hs, fun _ _ => rfl, rfl, .inr ⟨?_, rfl⟩⟩
      have hsz : (a.eval y).cells.size = n := by have := RVs.length rc; simp at this; omega
      simp only [execOp, Instr.storeAt, hax, Instr.sureAddr, Sem.run_bind, Sem.run_pure, Result.andThen_ok, storeVar, run_sizeT hn, hsz]
      simp [hr]
    · cases h
  · cases h

theorem RE_set : ∀ {es : MEs} {l : List MapEntry} {i : Nat} {x : AV × AV × Nat} {k' v' : Value}, REs ρ es l → RV ρ x.1 k' → RV ρ x.2.1 v' → REs ρ (setAt es i x) (l.set i ⟨k', v', x.2.2⟩)
  | [], l, i, x, k', v', r, _, _ => by simp only [REs] at r; subst r; cases i <;> simp [setAt, REs]
  | (_, _, _) :: _, _, 0, x, k', v', ⟨k2, v2, l2, r1, r2, rs, e⟩, hk, hv => by
    subst e; obtain ⟨xk, xv, xb⟩ := x; exact ⟨k', v', l2, hk, hv, rs, rfl⟩
  | (_, _, _) :: _, _, i + 1, x, k', v', ⟨k2, v2, l2, r1, r2, rs, e⟩, hk, hv => by
    subst e; exact ⟨k2, v2, _, r1, r2, RE_set rs hk hv, rfl⟩
theorem RE_snoc : ∀ {es : MEs} {l : List MapEntry} {k v : AV} {b : Nat} {k' v' : Value}, REs ρ es l → RV ρ k k' → RV ρ v v' → REs ρ (es ++ [(k, v, b)]) (l ++ [⟨k', v', b⟩])
  | [], l, k, v, b, k', v', r, hk, hv => by simp only [REs] at r; subst r; exact ⟨k', v', [], hk, hv, rfl, rfl⟩
  | (_, _, _) :: _, _, k, v, b, k', v', ⟨k2, v2, l2, r1, r2, rs, e⟩, hk, hv => by
    subst e; exact ⟨k2, v2, _, r1, r2, RE_snoc rs hk hv, rfl⟩
theorem RE_drop : ∀ {es : MEs} {l : List MapEntry} {i : Nat}, REs ρ es l → REs ρ (dropAt es i) (l.eraseIdx i)
  | [], l, i, r => by simp only [REs] at r; subst r; cases i <;> simp [dropAt, REs]
  | (_, _, _) :: _, _, 0, ⟨k2, v2, l2, r1, r2, rs, e⟩ => by subst e; exact rs
  | (_, _, _) :: _, _, i + 1, ⟨k2, v2, l2, r1, r2, rs, e⟩ => by subst e; exact ⟨k2, v2, _, r1, r2, RE_drop rs, rfl⟩
end
end Go.Ai
