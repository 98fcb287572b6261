/- A part of an evaluator over an abstract heap and of the proof that it is sound for the model. CONDITIONS: those that each theorem names. -/
import Derived.Test.YtneoghpfbgjaiaaGreatDoorAiEval
import Derived.WalkKit
namespace Go.Ai
open Go

/-! ### tries -/
theorem natC_eq {β : Type} (n : Nat) (k : Nat → β) : natC n k = k n := by cases n <;> rfl
theorem intC_eq {β : Type} (n : Int) (k : Int → β) : intC n k = k n := by cases n <;> simp [intC, natC_eq]
theorem boolC_eq {β : Type} (b : Bool) (k : Bool → β) : boolC b k = k b := by cases b <;> rfl
theorem listC_eq {α β : Type} : ∀ (l : List α) (k : List α → β), listC l k = k l
  | [], _ => rfl
  | x :: xs, k => by rw [listC, listC_eq xs]
theorem abC_eq {β : Type} (b : AB) (k : AB → β) : abC b k = k b := by cases b <;> simp [abC, natC_eq]
theorem avC_eq {β : Type} (v : AV) (k : AV → β) : avC v k = k v := by
  cases v <;> simp [avC, natC_eq, intC_eq, boolC_eq, listC_eq]
  rename_i c; cases c <;> simp

theorem T.get_e {α : Type} (k : Nat) : (T.e : T α).get k = none := rfl
theorem T.get_n {α : Type} (l r : T α) (v : Option α) (k : Nat) :
    (T.n l v r).get k = if k = 0 then v else if k % 2 = 1 then l.get (k / 2) else r.get (k / 2 - 1) := by
  show Bool.casesOn (motive := fun _ => Option α) (Nat.beq k 0) (Bool.casesOn (motive := fun _ => Option α) (Nat.beq (Nat.mod k 2) 1) (r.get (Nat.sub (Nat.div k 2) 1)) (l.get (Nat.div k 2))) v = _
  cases h0 : Nat.beq k 0
  · have hk : k ≠ 0 := by intro h; subst h; simp at h0
    cases h1 : Nat.beq (Nat.mod k 2) 1
    · have : k % 2 ≠ 1 := fun h => by
        have h' : Nat.mod k 2 = 1 := h
        rw [h'] at h1; simp at h1
      simp only [if_neg hk, if_neg this]; rfl
    · have : k % 2 = 1 := Nat.eq_of_beq_eq_true h1
      simp only [if_neg hk, if_pos this]; rfl
  · have hk : k = 0 := Nat.eq_of_beq_eq_true h0
    simp [hk]

theorem T.setFC_eq {α β : Type} : ∀ (f : Nat) (t : T α) (k : Nat) (x : α) (c : T α → β), T.setFC f t k x c = c (T.setF f t k x)
  | 0, t, k, x, c => rfl
  | f + 1, .e, k, x, c => by
    show Bool.casesOn (motive := fun _ => β) (Nat.beq k 0) (Bool.casesOn (motive := fun _ => β) (Nat.beq (Nat.mod k 2) 1)
          (T.setFC f .e (Nat.sub (Nat.div k 2) 1) x fun t => c (.n .e none t))
          (T.setFC f .e (Nat.div k 2) x fun t => c (.n t none .e))) (c (.n .e (some x) .e)) = _
    simp only [T.setFC_eq f]
    simp only [T.setF]
    have e1 : Nat.mod k 2 = k % 2 := rfl
    have e2 : Nat.div k 2 = k / 2 := rfl
    have e3 : Nat.sub (Nat.div k 2) 1 = k / 2 - 1 := rfl
    rw [e1, e3, e2]
    cases Nat.beq k 0 <;> simp only
    cases Nat.beq (k % 2) 1 <;> simp only
  | f + 1, .n l v r, k, x, c => by
    show Bool.casesOn (motive := fun _ => β) (Nat.beq k 0) (Bool.casesOn (motive := fun _ => β) (Nat.beq (Nat.mod k 2) 1)
          (T.setFC f r (Nat.sub (Nat.div k 2) 1) x fun t => c (.n l v t))
          (T.setFC f l (Nat.div k 2) x fun t => c (.n t v r))) (c (.n l (some x) r)) = _
    simp only [T.setFC_eq f]
    simp only [T.setF]
    have e1 : Nat.mod k 2 = k % 2 := rfl
    have e2 : Nat.div k 2 = k / 2 := rfl
    have e3 : Nat.sub (Nat.div k 2) 1 = k / 2 - 1 := rfl
    rw [e1, e3, e2]
    cases Nat.beq k 0 <;> simp only
    cases Nat.beq (k % 2) 1 <;> simp only

theorem T.get_setF {α : Type} : ∀ (f : Nat) (t : T α) (k j : Nat) (x : α), k < f → (T.setF f t k x).get j = if j = k then some x else t.get j
  | 0, t, k, j, x, h => by omega
  | f + 1, .e, k, j, x, h => by
    simp only [T.setF]
    split
    · rename_i h0
      have hk : k = 0 := Nat.eq_of_beq_eq_true h0
      subst hk
      simp only [T.get_n, T.get_e]
      by_cases hj : j = 0 <;> simp [hj]
    · rename_i h0
      have hk : k ≠ 0 := by intro e; subst e; simp at h0
      split
      · rename_i h1
        have h1' : k % 2 = 1 := Nat.eq_of_beq_eq_true h1
        simp only [T.get_n, T.get_e]
        rw [T.get_setF f .e (k / 2) (j / 2) x (by omega)]
        simp only [T.get_e]
        by_cases hj : j = 0
        · subst hj; rw [if_pos rfl, if_neg (by omega)]
        · rw [if_neg hj]
          by_cases hj1 : j % 2 = 1
          · rw [if_pos hj1]
            by_cases e : j = k
            · subst e; simp
            · rw [if_neg e, if_neg (by omega)]
          · rw [if_neg hj1, if_neg (by intro e; subst e; omega)]
      · rename_i h1
        have h1' : k % 2 ≠ 1 := by intro e; rw [e] at h1; simp at h1
        simp only [T.get_n, T.get_e]
        rw [T.get_setF f .e (k / 2 - 1) (j / 2 - 1) x (by omega)]
        simp only [T.get_e]
        by_cases hj : j = 0
        · subst hj; rw [if_pos rfl, if_neg (by omega)]
        · rw [if_neg hj]
          by_cases hj1 : j % 2 = 1
          · rw [if_pos hj1, if_neg (by intro e; subst e; omega)]
          · rw [if_neg hj1]
            by_cases e : j = k
            · subst e; simp
            · rw [if_neg e, if_neg (by omega)]
  | f + 1, .n l v r, k, j, x, h => by
    simp only [T.setF]
    split
    · rename_i h0
      have hk : k = 0 := Nat.eq_of_beq_eq_true h0
      subst hk
      simp only [T.get_n]
      by_cases hj : j = 0 <;> simp [hj]
    · rename_i h0
      have hk : k ≠ 0 := by intro e; subst e; simp at h0
      split
      · rename_i h1
        have h1' : k % 2 = 1 := Nat.eq_of_beq_eq_true h1
        simp only [T.get_n]
        rw [T.get_setF f l (k / 2) (j / 2) x (by omega)]
        by_cases hj : j = 0
        · subst hj; rw [if_pos rfl, if_neg (by omega), if_pos rfl]
        · rw [if_neg hj, if_neg hj]
          by_cases hj1 : j % 2 = 1
          · rw [if_pos hj1, if_pos hj1]
            by_cases e : j = k
            · subst e; simp
            · rw [if_neg e, if_neg (by omega)]
          · rw [if_neg hj1, if_neg hj1, if_neg (by intro e; subst e; omega)]
      · rename_i h1
        have h1' : k % 2 ≠ 1 := by intro e; rw [e] at h1; simp at h1
        simp only [T.get_n]
        rw [T.get_setF f r (k / 2 - 1) (j / 2 - 1) x (by omega)]
        by_cases hj : j = 0
        · subst hj; rw [if_pos rfl, if_neg (by omega), if_pos rfl]
        · rw [if_neg hj, if_neg hj]
          by_cases hj1 : j % 2 = 1
          · rw [if_pos hj1, if_pos hj1, if_neg (by intro e; subst e; omega)]
          · rw [if_neg hj1, if_neg hj1]
            by_cases e : j = k
            · subst e; simp
            · rw [if_neg e, if_neg (by omega)]

theorem T.get_set {α : Type} (t : T α) (k j : Nat) (x : α) : (t.set k x).get j = if j = k then some x else t.get j :=
  T.get_setF (k + 1) t k j x (by omega)
theorem T.setC_eq {α β : Type} (t : T α) (k : Nat) (x : α) (c : T α → β) : T.setC t k x c = c (t.set k x) := T.setFC_eq _ _ _ _ _
theorem T.setListC_eq {α β : Type} : ∀ (l : List α) (t : T α) (k : Nat) (c : T α → β), T.setListC t k l c = c (t.setList k l)
  | [], _, _, _ => rfl
  | x :: xs, t, k, c => by rw [T.setListC, T.setC_eq, natC_eq, T.setListC_eq xs]; rfl
theorem T.get_setList {α : Type} : ∀ (l : List α) (t : T α) (k j : Nat), (t.setList k l).get j = if k ≤ j ∧ j < k + l.length then l[j - k]? else t.get j
  | [], t, k, j => by rw [T.setList, if_neg (by simp only [List.length_nil]; omega)]
  | x :: xs, t, k, j => by
    rw [T.setList, T.get_setList xs, T.get_set]
    by_cases h : k + 1 ≤ j ∧ j < k + 1 + xs.length
    · rw [if_pos h, if_pos (by simp; omega), show j - k = (j - (k + 1)) + 1 from by omega]; simp only [List.getElem?_cons_succ]
    · rw [if_neg h]
      by_cases e : j = k
      · subst e; rw [if_pos rfl, if_pos (by simp)]; simp only [Nat.sub_self, List.getElem?_cons_zero]
      · rw [if_neg e, if_neg (by simp; omega)]

theorem hsetC_eq {β : Type} (h : Heap) (k : Nat) (b : AB) (c : Heap → β) : hsetC h k b c = c (hset h k b) := by
  unfold hsetC hset
  split <;> simp only [T.setC_eq]
theorem hget_hset (h : Heap) (k j : Nat) (b : AB) : hget (hset h k b) j = if j = k then some b else hget h j := by
  have key : (Nat.div j 16777216 = Nat.div k 16777216 ∧ Nat.mod j 16777216 = Nat.mod k 16777216) ↔ j = k := by
    constructor
    · rintro ⟨h1, h2⟩
      have e1 := Nat.div_add_mod j 16777216
      have e2 := Nat.div_add_mod k 16777216
      have h1' : j / 16777216 = k / 16777216 := h1
      have h2' : j % 16777216 = k % 16777216 := h2
      omega
    · rintro rfl; exact ⟨rfl, rfl⟩
  unfold hset hget
  cases e : h.get (Nat.div k 16777216) with
  | some t =>
    simp only [T.get_set]
    by_cases h1 : Nat.div j 16777216 = Nat.div k 16777216
    · rw [if_pos h1]
      simp only [T.get_set]
      by_cases h2 : Nat.mod j 16777216 = Nat.mod k 16777216
      · rw [if_pos h2, if_pos (key.1 ⟨h1, h2⟩)]
      · rw [if_neg h2, if_neg (fun e => h2 (by rw [e])), h1, e]
    · rw [if_neg h1, if_neg (fun e => h1 (by rw [e]))]
  | none =>
    simp only [T.get_set]
    by_cases h1 : Nat.div j 16777216 = Nat.div k 16777216
    · rw [if_pos h1]
      simp only [T.get_set, T.get_e]
      by_cases h2 : Nat.mod j 16777216 = Nat.mod k 16777216
      · rw [if_pos h2, if_pos (key.1 ⟨h1, h2⟩)]
      · rw [if_neg h2, if_neg (fun e => h2 (by rw [e])), h1, e]
    · rw [if_neg h1, if_neg (fun e => h1 (by rw [e]))]
theorem hget_e (j : Nat) : hget (T.e : Heap) j = none := rfl

theorem St.upd_eq (s : St) (k : Nat) (b : AB) : s.upd k b = ⟨hset s.h k b, s.fc⟩ := by
  cases s; simp [St.upd, abC_eq, natC_eq, hsetC_eq]
theorem St.withH_eq (s : St) (h : Heap) : s.withH h = ⟨h, s.fc⟩ := by cases s; rfl
theorem Fr.bump_eq (fr : Fr) (i : Nat) : fr.bump i = { fr with lc := fr.lc + i } := by cases fr; simp [Fr.bump, natC_eq]
theorem Fr.put_some (fr : Fr) (d : Nat) (v : AV) (fr' : Fr) (h : fr.put (some d) v = some fr') : d < fr.n ∧ fr' = { fr with t := fr.t.set d v } := by
  obtain ⟨fno, lc, n, t, df, rc⟩ := fr
  simp only [Fr.put, avC_eq, T.setC_eq] at h
  cases hb : Nat.blt d n with
  | true =>
    rw [hb] at h
    simp only [Option.some.injEq] at h
    refine ⟨?_, h.symm⟩
    simpa using hb
  | false => rw [hb] at h; cases h

/-! ### what stands for what -/
structure Ent where
  b : Nat
  o : Nat
  k : Nat
abbrev Map := Nat → Option Ent

mutual
def RV (ρ : Map) : AV → Value → Prop
  | .bool b, v => v = .bool b
  | .int k n, v => v = .int k n
  | .str s, v => v = .string ⟨s.toArray⟩
  | .nilp, v => v = .pointer none
  | .ptr i o, v => ∃ e, ρ i = some e ∧ v = .pointer (some ⟨e.b, e.o + o, none⟩)
  | .gptr g o, v => v = .pointer (some ⟨g, o, none⟩)
  | .nils, v => v = .slice none 0 0
  | .slice i o eo len cap, v => ∃ e, ρ i = some e ∧
      match cap with
      | some c => ∃ o', len ≤ c ∧ (0 < c → o' = o) ∧ v = .slice (some ⟨e.b, e.o + o', none⟩) len c
      | none => ∃ o', eo + len ≤ e.k ∧ (eo < e.k → o' = o) ∧ v = .slice (some ⟨e.b, e.o + o', none⟩) len (e.k - eo)
  | .nilm, v => v = .map none
  | .map i, v => ∃ e, ρ i = some e ∧ v = .map (some e.b)
  | .fn f a c, v => ∃ a' c', RVs ρ a a' ∧ RVs ρ c c' ∧ v = .func f a'.toArray c'.toArray
  | .nilf, v => v = .nilFunc
  | .iface t x, v => ∃ y, RV ρ x y ∧ v = .iface t y
  | .nili, v => v = .nilIface
  | .agg cs, v => ∃ vs, RVs ρ cs vs ∧ v = .agg vs.toArray
  | .tup cs, v => ∃ vs, RVs ρ cs vs ∧ v = .tuple vs.toArray
def RVs (ρ : Map) : List AV → List Value → Prop
  | [], l => l = []
  | a :: as', l => ∃ v vs, RV ρ a v ∧ RVs ρ as' vs ∧ l = v :: vs
end

def Mono (ρ ρ' : Map) : Prop := ∀ i e, ρ i = some e → ρ' i = some e
theorem Mono.refl (ρ : Map) : Mono ρ ρ := fun _ _ h => h
theorem Mono.trans {a b c : Map} (h : Mono a b) (k : Mono b c) : Mono a c := fun i e he => k i e (h i e he)

mutual
theorem RV.mono {ρ ρ' : Map} (h : Mono ρ ρ') : ∀ (a : AV) (v : Value), RV ρ a v → RV ρ' a v
  | .bool _, _, r => r
  | .int _ _, _, r => r
  | .str _, _, r => r
  | .nilp, _, r => r
  | .ptr _ _, _, ⟨e, he, r⟩ => ⟨e, h _ _ he, r⟩
  | .gptr _ _, _, r => r
  | .nils, _, r => r
  | .slice _ _ _ _ _, _, ⟨e, he, r⟩ => ⟨e, h _ _ he, r⟩
  | .nilm, _, r => r
  | .map _, _, ⟨e, he, r⟩ => ⟨e, h _ _ he, r⟩
  | .fn _ a c, _, ⟨a', c', ra, rc, r⟩ => ⟨a', c', RVs.mono h a a' ra, RVs.mono h c c' rc, r⟩
  | .nilf, _, r => r
  | .iface _ x, _, ⟨y, rx, r⟩ => ⟨y, RV.mono h x y rx, r⟩
  | .nili, _, r => r
  | .agg cs, _, ⟨vs, rs, r⟩ => ⟨vs, RVs.mono h cs vs rs, r⟩
  | .tup cs, _, ⟨vs, rs, r⟩ => ⟨vs, RVs.mono h cs vs rs, r⟩
theorem RVs.mono {ρ ρ' : Map} (h : Mono ρ ρ') : ∀ (a : List AV) (v : List Value), RVs ρ a v → RVs ρ' a v
  | [], _, r => r
  | a :: as', _, ⟨v, vs, ra, rs, r⟩ => ⟨v, vs, RV.mono h a v ra, RVs.mono h as' vs rs, r⟩
end

theorem RVs.length {ρ : Map} : ∀ {a : List AV} {v : List Value}, RVs ρ a v → a.length = v.length
  | [], _, r => by simp only [RVs] at r; subst r; rfl
  | _ :: as', _, ⟨v, vs, _, rs, r⟩ => by subst r; simp [RVs.length rs]
theorem RVs.get {ρ : Map} : ∀ {a : List AV} {v : List Value}, RVs ρ a v → ∀ (i : Nat) (x : AV), a[i]? = some x → ∃ y, v[i]? = some y ∧ RV ρ x y
  | [], _, _, i, x, h => by simp at h
  | a :: as', _, ⟨v, vs, ra, rs, r⟩, 0, x, h => by subst r; simp at h; subst h; exact ⟨v, by simp, ra⟩
  | a :: as', _, ⟨v, vs, ra, rs, r⟩, i + 1, x, h => by subst r; simp at h; obtain ⟨y, hy, ry⟩ := RVs.get rs i x h; exact ⟨y, by simpa using hy, ry⟩
theorem RVs.append {ρ : Map} : ∀ {a b : List AV} {v w : List Value}, RVs ρ a v → RVs ρ b w → RVs ρ (a ++ b) (v ++ w)
  | [], _, _, _, r, s => by simp only [RVs] at r; subst r; exact s
  | _ :: _, _, _, _, ⟨v, vs, ra, rs, r⟩, s => by subst r; exact ⟨v, _, ra, RVs.append rs s, rfl⟩
theorem RVs.drop {ρ : Map} : ∀ (n : Nat) {a : List AV} {v : List Value}, RVs ρ a v → RVs ρ (a.drop n) (v.drop n)
  | 0, _, _, r => r
  | n + 1, [], _, r => by simp only [RVs] at r; subst r; simp [RVs]
  | n + 1, _ :: _, _, ⟨_, _, _, rs, r⟩ => by subst r; exact RVs.drop n rs
theorem RVs.take {ρ : Map} : ∀ (n : Nat) {a : List AV} {v : List Value}, RVs ρ a v → RVs ρ (a.take n) (v.take n)
  | 0, _, _, _ => by simp [RVs]
  | n + 1, [], _, r => by simp only [RVs] at r; subst r; simp [RVs]
  | n + 1, _ :: _, _, ⟨_, _, ra, rs, r⟩ => by subst r; exact ⟨_, _, ra, RVs.take n rs, rfl⟩

end Go.Ai
