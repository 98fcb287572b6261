/- A part of the proof of the law ReplayRings. CONDITIONS: those that each theorem names. -/
import Derived.Test.YtpgkhpfogjclhaaGreatDoorRFRules
import Derived.Test.YtpgkhpfogjclhaaGreatDoorRFElem
import Derived.Test.YtpgkhpfogjclhaaGreatDoorSPApp
/-! Small rules. -/
namespace Go.Ai
open Go
theorem out_int {k : IntKind} {a b : Int} {s : St} (h : a = b) : Out.val (.int k a) s = Out.val (.int k b) s := by rw [h]
def lenOk (s : List UInt8) : Prop := s.length ≤ maxLen
def okN (n : Int) : Prop := 1 ≤ n ∧ n ≤ 1000000
theorem okN_lt {n : Int} (h : okN n) : decide (n < 1) = false := decide_eq_false (by unfold okN at h; omega)
theorem okN_rem {P : Program} {t : TypeId} {a n : Int} (h : okN n) : intOp P .rem t .u64 .u64 a (wrapL .u64 n) = some (.int .u64 (remU a (wrapL .u64 n))) := intOp_rem (by unfold okN at h; rw [wrapU_in h.1 h.2]; omega)
theorem text_at' {h h1 : Heap} {F i : Nat} {a : AV} {L : List (List AV)} (hw : Wf ⟨h, F⟩) (hl : LstP h ksT a L) (hs : SameH h h1) (hi : i < L.length) : ∃ b o eo cap s, a = .slice b o eo L.length cap ∧ b < ky F 0 ∧ L[i] = [.str s] ∧ lenOk s ∧ rdAB (hget h1 b) (o + i * 1) 1 = some [.str s] := by
  obtain ⟨b, o, eo, cap, e, h0, hp⟩ := hl.at hi
  obtain ⟨s, el⟩ := cks_T (hl.ok hi)
  have hk := hl.ok hi
  rw [el] at h0 hp hk
  obtain ⟨a', r, e', ha, _⟩ := hk
  cases e'
  exact ⟨b, o, eo, cap, s, e, rd_low hw h0, el, ha, hs.rd h0⟩
theorem out_t {p : Prop} {s : St} (hp : p) : Out.val (.bool true) s = Out.val (.bool (dec p)) s := by rw [dec_t hp]
theorem out_f {p : Prop} {s : St} (hp : ¬ p) : Out.val (.bool false) s = Out.val (.bool (dec p)) s := by rw [dec_f hp]
theorem out_b {p : Prop} {b : Bool} {s : St} (hp : b = true ↔ p) : Out.val (.bool b) s = Out.val (.bool (dec p)) s := by rw [bool_dec hp]
theorem rCv_int {P : Program} {h : Heap} {src dst : TypeId} {d : TypeDesc} {k k' : IntKind} {n : Int} (hd : P.underlying dst = some (.int k)) (hs : P.underlying src = some d) : rCv P h src dst (some (.int k' n)) = some (.int k (wrapL k n)) := by
  rw [wrapL, lock_eq]
  simp only [rCv, convA, hd, hs]
/-- the name of a callee's first block; the kernel doesn't look into it -/
noncomputable def nk (F : Nat) : Nat := Classical.choose (⟨ky F 0, rfl⟩ : ∃ y, y = ky F 0)
theorem nk_eq (F : Nat) : nk F = ky F 0 := Classical.choose_spec (⟨ky F 0, rfl⟩ : ∃ y, y = ky F 0)
theorem nk_low (F : Nat) : ky F 0 ≤ nk (F + 1) := by rw [nk_eq]; unfold ky; omega
theorem nk_old {F i : Nat} (h : i < ky F 0) : (i = nk (F + 1)) = False := eq_false (by have := nk_low F; omega)
theorem nk_ky {F c : Nat} (h : c < 1267650600228229401496703205376) : (ky F c = nk (F + 1)) = False := eq_false (by rw [nk_eq]; unfold ky; omega)
theorem natOf_c (k : IntKind) (i : Nat) : natOf (.int k (i : Int)) = some i := rfl
theorem lcn1 {lc N k : Nat} (h : N ≤ lc) (hk : k < N) : (k = lc) = False := by apply propext; constructor; omega; exact False.elim
theorem lcn2 {lc N k : Nat} (h : N ≤ lc) (hk : k < N) : (lc = k) = False := by apply propext; constructor; omega; exact False.elim
end Go.Ai
