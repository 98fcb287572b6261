/- A part of the proof of the law ReplayRings. CONDITIONS: those that each theorem names. -/
import Derived.Test.YtpgkhpfogjclhaaGreatDoorEngineD
/-! What a pass's freshness is, in plain words. -/
namespace Go.Ai
open Go
abbrev ksV : List CK := [.i .i64, .i .i64, .s]
abbrev ksI : List CK := [.s, .i .i64, .i .i64, .s]
abbrev ksW : List CK := [.s, .b, .i .i64, .i .i64, .s]
abbrev ksT : List CK := [.s]
abbrev zeroV : List AV := [.int .i64 0, .int .i64 0, .str []]
def plainB (c : UInt8) : Prop := 32 ≤ c.toNat ∧ c.toNat ≤ 126
def vOk (k n : Int) (t : List UInt8) : Prop := (k = 0 ∧ n = 0 ∧ t = []) ∨ (k = 1 ∧ t = []) ∨ (k = 2 ∧ n = 0 ∧ t.length ≤ 64 ∧ ∀ c ∈ t, plainB c)
theorem vOk_zero : vOk 0 0 [] := .inl ⟨rfl, rfl, rfl⟩
def okL : List AV → Prop
  | [.int _ k, .int _ n, .str t] => vOk k n t
  | _ => False
theorem okL_mk (i j : IntKind) (k n : Int) (t : List UInt8) : okL [.int i k, .int j n, .str t] = vOk k n t := rfl
noncomputable def clean (v : List AV) : List AV := open Classical in if okL v then v else zeroV
theorem clean_t {v : List AV} (h : okL v) : clean v = v := by unfold clean; rw [if_pos h]
theorem clean_f {v : List AV} (h : ¬ okL v) : clean v = zeroV := by unfold clean; rw [if_neg h]
theorem clean_zero : clean zeroV = zeroV := clean_t vOk_zero
def keyIs (k : List UInt8) (l : List AV) : Prop := l.head? = some (.str k)
theorem keyIs_mk (k s : List UInt8) (l : List AV) : keyIs k (.str s :: l) ↔ s = k := by simp [keyIs]
noncomputable def getV (k : List UInt8) : List (List AV) → List AV
  | [] => zeroV
  | l :: L => open Classical in if keyIs k l then l.drop 1 else getV k L
theorem getV_miss {k : List UInt8} : ∀ {L : List (List AV)}, (∀ l ∈ L, ¬ keyIs k l) → getV k L = zeroV
  | [], _ => rfl
  | l :: L, h => by
    unfold getV
    rw [if_neg (h l List.mem_cons_self), getV_miss fun x hx => h x (List.mem_cons_of_mem _ hx)]
theorem getV_at {k : List UInt8} : ∀ {L : List (List AV)} {i : Nat} (hi : i < L.length), (∀ j (hj : j < i), ¬ keyIs k (L[j]'(Nat.lt_trans hj hi))) → keyIs k L[i] → getV k L = L[i].drop 1
  | [], _, hi, _, _ => by simp at hi
  | l :: L, 0, _, _, h => by
    have h : keyIs k l := h
    show getV k (l :: L) = l.drop 1
    unfold getV; rw [if_pos h]
  | l :: L, i + 1, hi, h, hk => by
    have h0 : ¬ keyIs k l := h 0 (by omega)
    show getV k (l :: L) = (L[i]'(by simpa using hi)).drop 1
    unfold getV
    rw [if_neg h0]
    exact getV_at (L := L) (by simpa using hi) (fun j hj => by have := h (j + 1) (by omega); simpa using this) (by simpa using hk)
theorem getV_miss' {k : List UInt8} {L : List (List AV)} (h : ∀ j (hj : j < L.length), ¬ keyIs k L[j]) : getV k L = zeroV :=
  getV_miss fun l hl => by obtain ⟨j, hj, rfl⟩ := List.getElem_of_mem hl; exact h j hj
theorem getV_shape (k : List UInt8) : ∀ {L : List (List AV)}, (∀ l ∈ L, cksOk ksI l) → cksOk ksV (getV k L)
  | [], _ => ⟨_, _, rfl, ⟨rfl, by decide, by decide⟩, _, _, rfl, ⟨rfl, by decide, by decide⟩, _, _, rfl, by simp [ckOk], rfl⟩
  | l :: L, h => by
    unfold getV
    split
    · obtain ⟨a, r, rfl, _, hr⟩ := h l List.mem_cons_self
      exact hr
    · exact getV_shape k fun x hx => h x (List.mem_cons_of_mem _ hx)
theorem cks_V {l : List AV} (h : cksOk ksV l) : ∃ k n t, l = [.int .i64 k, .int .i64 n, .str t] ∧ t.length ≤ maxLen := by
  obtain ⟨a, r, rfl, ha, b, r', rfl, hb, c, r'', rfl, hc, rfl⟩ := h
  cases a <;> simp only [ckOk] at ha <;> try exact ha.elim
  cases b <;> simp only [ckOk] at hb <;> try exact hb.elim
  cases c <;> simp only [ckOk] at hc <;> try exact hc.elim
  obtain ⟨rfl, _⟩ := ha
  obtain ⟨rfl, _⟩ := hb
  exact ⟨_, _, _, rfl, hc⟩
theorem cks_I {l : List AV} (h : cksOk ksI l) : ∃ s k n t, l = [.str s, .int .i64 k, .int .i64 n, .str t] ∧ s.length ≤ maxLen ∧ t.length ≤ maxLen := by
  obtain ⟨a, r, rfl, ha, hr⟩ := h
  cases a <;> simp only [ckOk] at ha <;> try exact ha.elim
  obtain ⟨k, n, t, rfl, ht⟩ := cks_V hr
  exact ⟨_, _, _, _, rfl, ha, ht⟩
theorem cks_W {l : List AV} (h : cksOk ksW l) : ∃ s b k n t, l = [.str s, .bool b, .int .i64 k, .int .i64 n, .str t] := by
  obtain ⟨a, r, rfl, ha, b, r', rfl, hb, hr⟩ := h
  cases a <;> simp only [ckOk] at ha <;> try exact ha.elim
  cases b <;> simp only [ckOk] at hb <;> try exact hb.elim
  obtain ⟨k, n, t, rfl, ht⟩ := cks_V hr
  exact ⟨_, _, _, _, _, rfl⟩
theorem cks_T {l : List AV} (h : cksOk ksT l) : ∃ s, l = [.str s] := by
  obtain ⟨a, r, rfl, ha, rfl⟩ := h
  cases a <;> simp only [ckOk] at ha <;> try exact ha.elim
  exact ⟨_, rfl⟩
def freshAt (M : List (List AV)) (l : List AV) : Prop := ∀ k r, l = .str k :: r → clean (getV k M) = r
def freshP (L M : List (List AV)) : Prop := ∀ i (hi : i < L.length), freshAt M L[i]
def sameKey (l m : List AV) : Prop := l.head? = m.head?
def touchP (L W : List (List AV)) : Prop := ∃ i, ∃ hi : i < L.length, ∃ j, ∃ hj : j < W.length, sameKey L[i] W[j]
theorem sameKey_mk (s t : List UInt8) (l m : List AV) : sameKey (.str s :: l) (.str t :: m) ↔ s = t := by simp [sameKey]
theorem eq_idx {L M : List (List AV)} (hl : L.length = M.length) (h : ∀ i (hi : i < L.length) (hj : i < M.length), L[i] = M[i]) : L = M := List.ext_getElem hl h
theorem ne_idx {L M : List (List AV)} {i : Nat} (hi : i < L.length) (hj : i < M.length) (h : L[i] ≠ M[i]) : L ≠ M := fun e => by subst e; exact h rfl
theorem ne_len {L M : List (List AV)} (h : L.length ≠ M.length) : L ≠ M := fun e => by subst e; exact h rfl
end Go.Ai
