/- A part of the proof of the law SerialTexts. CONDITIONS: those that each theorem names. -/
import Derived.Lib.SlicesCompact
import Derived.Sort.Row
import Derived.Sort.Grow
import Derived.KernelRfl
import Derived.Lib.ItoaNum
import Derived.Lib.Join
import Derived.Deep.Draws
import Derived.Lib.LaidTab
import Derived.Test.YtlbjmpbgnbpcoaaGreatDoorEngineA
import Derived.Test.YtlbjmpbgnbpcoaaGreatDoorEngineB
import Derived.Test.YtlbjmpbgnbpcoaaGreatDoorEngineC
import Derived.Test.YtlbjmpbgnbpcoaaGreatDoorEngineD
import Derived.Test.YtlbjmpbgnbpcoaaGreatDoorEngineE
import Derived.Test.YtlbjmpbgnbpcoaaGreatDoorPartA
import Derived.Test.YtlbjmpbgnbpcoaaGreatDoorSTTypes
/-! One rule for an operation, guarded or not. -/
namespace Go.Ai
open Go
variable {P : Program} {G : Glob} {K : CallF} {m : Nat} {Q : Ex → Fr → St → Prop}
noncomputable def stepAny (P : Program) (G : Glob) (K : CallF) (ops : Array Oper) (o : Oper) (i : Nat) (fr : Fr) (s : St) : Option (Fr × St) :=
  match wantedA fr ops o with
  | true => stepOp P G K o.dst o.op i fr s
  | false => match fr.put o.dst .undef with
    | some fr' => some (fr', s)
    | none => none
theorem wantedA_none (fr : Fr) (ops : Array Oper) (dst : Option Tmp) (op : Op) (ty : TypeId) (pos : String) (after : Array Edge) : wantedA fr ops ⟨dst, op, ty, pos, after, none⟩ = true := rfl
section
variable {l : List Oper} {ops : Array Oper} {i : Nat} {fr fr' : Fr} {s s' : St} {o : Oper} {rest : List Oper} {j : Nat} {js : List Nat}
theorem r_any (h : stepAny P G K ops o i fr s = some (fr', s')) (hk : WR (textOps P G K ops rest (i + 1) fr' s') Q) : WR (textOps P G K ops (o :: rest) i fr s) Q := by
  obtain ⟨dst, op, ty, pos, after, g⟩ := o
  unfold stepAny at h
  cases hw : wantedA fr ops ⟨dst, op, ty, pos, after, g⟩ with
  | true =>
    rw [hw] at h
    simp only at h
    cases g with
    | none => exact r_step h hk
    | some g => exact r_stepT hw h hk
  | false =>
    rw [hw] at h
    simp only at h
    cases g with
    | none => rw [wantedA_none] at hw; cases hw
    | some g =>
      split at h
      · rename_i fr1 hp; cases h; exact r_stepF hw hp hk
      · cases h
noncomputable def readSelf (ops : Array Oper) (fr fr' : Fr) (o : Oper) : Bool :=
  match wantedA fr ops o, clsOf o.op, o.dst with
  | true, .read, some d => match fr'.t.get d with
    | some v => avEq v v
    | none => false
  | true, .read, none => false
  | _, _, _ => true
theorem d_any (ho : l[j]? = some o) (h : stepAny P G K l.toArray o j fr s = some (fr', s')) (hv : readSelf l.toArray fr fr' o = true) (hs : SameH s.h s'.h) (hk : DW P G K l Q js fr' s') : DW P G K l Q (j :: js) fr s := by
  unfold stepAny at h
  cases hw : wantedA fr l.toArray o with
  | true =>
    rw [hw] at h
    simp only at h
    refine ⟨o, ho, .inr ⟨hw, fr', s', h, hs, fun v h1 h2 => ?_, hk⟩⟩
    unfold stepOp at h
    rw [h1] at h
    obtain ⟨u, e, hp, _⟩ := stV_some h
    rw [h2] at e
    cases e
    unfold readSelf at hv
    rw [hw, h1] at hv
    cases hd : o.dst with
    | none => rw [hd] at hv; cases hv
    | some d =>
      rw [hd] at hv
      simp only at hv
      have := (put_some' hp).2.2 d
      rw [hd, if_pos rfl] at this
      rw [this] at hv
      exact hv
  | false =>
    rw [hw] at h
    simp only at h
    split at h
    · rename_i fr1 hp; cases h; exact ⟨o, ho, .inl ⟨hw, _, hp, hk⟩⟩
    · cases h
end
theorem av_str {l : List UInt8} : avEq (.str l) (.str l) = true := by simp [avEq]
theorem av_int {k : IntKind} {n : Int} : avEq (.int k n) (.int k n) = true := by simp [avEq]
theorem av_bool {b : Bool} : avEq (.bool b) (.bool b) = true := by simp [avEq]
theorem av_ptr {i o : Nat} : avEq (.ptr i o) (.ptr i o) = true := by simp [avEq]
theorem av_sl {b o eo n : Nat} {cap : Option Nat} : avEq (.slice b o eo n cap) (.slice b o eo n cap) = true := by simp [avEq]
theorem av_nils : avEq .nils .nils = true := rfl
theorem av_nili : avEq .nili .nili = true := rfl
theorem av_agg {l : List AV} : avEq (.agg l) (.agg l) = avsEq l l := by simp [avEq]
theorem av_if {t : Nat} {v : AV} : avEq (.iface t v) (.iface t v) = avEq v v := by simp [avEq]
theorem avs_nil : avsEq [] [] = true := by simp [avsEq]
theorem avs_cons {a : AV} {l : List AV} : avsEq (a :: l) (a :: l) = (avEq a a && avsEq l l) := by simp [avsEq]
end Go.Ai

/-! Rules for the operations that are met most. -/
namespace Go.Ai
open Go
variable {P : Program} {G : Glob} {K : CallF} {Q : Ex → Fr → St → Prop} {ops : Array Oper} {rest : List Oper} {i F lc n : Nat} {t : T AV} {df : List (AV × List AV)} {rc : Rc} {s : St} {ty : TypeId} {pos : String} {after : Array Edge} {x d : Nat} {v : AV}
theorem r_move (hv : t.get x = some v) (hd : d < n) (hk : WR (textOps P G K ops rest (i + 1) ⟨F, lc, n, t.set d v, df, rc⟩ s) Q) : WR (textOps P G K ops (⟨some d, .move (.tmp x), ty, pos, after, none⟩ :: rest) i ⟨F, lc, n, t, df, rc⟩ s) Q := by
  refine r_step (fr' := ⟨F, lc, n, t.set d v, df, rc⟩) (s' := s) ?_ hk
  show stV ⟨F, lc, n, t, df, rc⟩ (some d) s (pureOp P ⟨F, lc, n, t, df, rc⟩ (.move (.tmp x))) = _
  have : pureOp P ⟨F, lc, n, t, df, rc⟩ (.move (.tmp x)) = some v := by
    simp only [pureOp, ev_tmp, hv]
  rw [this, stV_mk, put_mk, if_pos hd]
theorem r_assign (hv : t.get x = some v) (hd : d < n) (hk : WR (textOps P G K ops rest (i + 1) ⟨F, lc, n, t.set d v, df, rc⟩ s) Q) : WR (textOps P G K ops (⟨some d, .assign (.tmp x), ty, pos, after, none⟩ :: rest) i ⟨F, lc, n, t, df, rc⟩ s) Q := by
  refine r_step (fr' := ⟨F, lc, n, t.set d v, df, rc⟩) (s' := s) ?_ hk
  show stV ⟨F, lc, n, t, df, rc⟩ (some d) s (pureOp P ⟨F, lc, n, t, df, rc⟩ (.assign (.tmp x))) = _
  have : pureOp P ⟨F, lc, n, t, df, rc⟩ (.assign (.tmp x)) = some v := by
    simp only [pureOp, ev_tmp, hv]
  rw [this, stV_mk, put_mk, if_pos hd]
theorem r_condT {c : Nat} {b : Bool} {a1 a2 : Code} {m : Nat} (hv : t.get c = some (.bool b)) (h : ifQ b (WR (code P G K m a1 ⟨F, lc, n, t, df, rc⟩ s) Q) (WR (code P G K m a2 ⟨F, lc, n, t, df, rc⟩ s) Q)) : WR (code P G K m (.cond (.tmp c) a1 a2) ⟨F, lc, n, t, df, rc⟩ s) Q := by
  refine r_cond (b := b) ?_ h
  rw [ev_tmp, hv]
end Go.Ai

/-! What a pass's freshness is, in plain words. -/
namespace Go.Ai
open Go
abbrev ksV : List CK := [.i .i64, .i .i64, .s]
abbrev ksI : List CK := [.s, .i .i64, .i .i64, .s]
abbrev ksW : List CK := [.s, .b, .i .i64, .i .i64, .s]
abbrev ksT : List CK := [.s]
abbrev zeroV : List AV := [.int .i64 0, .int .i64 0, .str []]
def plainB (c : UInt8) : Prop := 32 ≤ c.toNat ∧ c.toNat ≤ 126
def vOk (k n : Int) (t : List UInt8) : Prop := (k = 0 ∧ n = 0 ∧ t = []) ∨ (k = 1 ∧ t = []) ∨ (k = 2 ∧ n = 0 ∧ t.length ≤ 64 ∧ ∀ c ∈ t, plainB c)
theorem vOk_zero : vOk 0 0 [] := .inl ⟨rfl, rfl, rfl⟩
def okL : List AV → Prop
  | [.int _ k, .int _ n, .str t] => vOk k n t
  | _ => False
theorem okL_mk (i j : IntKind) (k n : Int) (t : List UInt8) : okL [.int i k, .int j n, .str t] = vOk k n t := rfl
noncomputable def clean (v : List AV) : List AV := open Classical in if okL v then v else zeroV
theorem clean_t {v : List AV} (h : okL v) : clean v = v := by unfold clean; rw [if_pos h]
theorem clean_f {v : List AV} (h : ¬ okL v) : clean v = zeroV := by unfold clean; rw [if_neg h]
theorem clean_zero : clean zeroV = zeroV := clean_t vOk_zero
def keyIs (k : List UInt8) (l : List AV) : Prop := l.head? = some (.str k)
theorem keyIs_mk (k s : List UInt8) (l : List AV) : keyIs k (.str s :: l) ↔ s = k := by simp [keyIs]
noncomputable def getV (k : List UInt8) : List (List AV) → List AV
  | [] => zeroV
  | l :: L => open Classical in if keyIs k l then l.drop 1 else getV k L
theorem getV_miss {k : List UInt8} : ∀ {L : List (List AV)}, (∀ l ∈ L, ¬ keyIs k l) → getV k L = zeroV
  | [], _ => rfl
  | l :: L, h => by
    unfold getV
    rw [if_neg (h l List.mem_cons_self), getV_miss fun x hx => h x (List.mem_cons_of_mem _ hx)]
theorem getV_at {k : List UInt8} : ∀ {L : List (List AV)} {i : Nat} (hi : i < L.length), (∀ j (hj : j < i), ¬ keyIs k (L[j]'(Nat.lt_trans hj hi))) → keyIs k L[i] → getV k L = L[i].drop 1
  | [], _, hi, _, _ => by simp at hi
  | l :: L, 0, _, _, h => by
    have h : keyIs k l := h
    show getV k (l :: L) = l.drop 1
    unfold getV; rw [if_pos h]
  | l :: L, i + 1, hi, h, hk => by
    have h0 : ¬ keyIs k l := h 0 (by omega)
    show getV k (l :: L) = (L[i]'(by simpa using hi)).drop 1
    unfold getV
    rw [if_neg h0]
    exact getV_at (L := L) (by simpa using hi) (fun j hj => by have := h (j + 1) (by omega); simpa using this) (by simpa using hk)
theorem getV_miss' {k : List UInt8} {L : List (List AV)} (h : ∀ j (hj : j < L.length), ¬ keyIs k L[j]) : getV k L = zeroV :=
  getV_miss fun l hl => by obtain ⟨j, hj, rfl⟩ := List.getElem_of_mem hl; exact h j hj
theorem getV_shape (k : List UInt8) : ∀ {L : List (List AV)}, (∀ l ∈ L, cksOk ksI l) → cksOk ksV (getV k L)
  | [], _ => ⟨_, _, rfl, ⟨rfl, by decide, by decide⟩, _, _, rfl, ⟨rfl, by decide, by decide⟩, _, _, rfl, by simp [ckOk], rfl⟩
  | l :: L, h => by
    unfold getV
    split
    · obtain ⟨a, r, rfl, _, hr⟩ := h l List.mem_cons_self
      exact hr
    · exact getV_shape k fun x hx => h x (List.mem_cons_of_mem _ hx)
theorem cks_V {l : List AV} (h : cksOk ksV l) : ∃ k n t, l = [.int .i64 k, .int .i64 n, .str t] ∧ t.length ≤ maxLen := by
  obtain ⟨a, r, rfl, ha, b, r', rfl, hb, c, r'', rfl, hc, rfl⟩ := h
  cases a <;> simp only [ckOk] at ha <;> try exact ha.elim
  cases b <;> simp only [ckOk] at hb <;> try exact hb.elim
  cases c <;> simp only [ckOk] at hc <;> try exact hc.elim
  obtain ⟨rfl, _⟩ := ha
  obtain ⟨rfl, _⟩ := hb
  exact ⟨_, _, _, rfl, hc⟩
theorem cks_I {l : List AV} (h : cksOk ksI l) : ∃ s k n t, l = [.str s, .int .i64 k, .int .i64 n, .str t] ∧ s.length ≤ maxLen ∧ t.length ≤ maxLen := by
  obtain ⟨a, r, rfl, ha, hr⟩ := h
  cases a <;> simp only [ckOk] at ha <;> try exact ha.elim
  obtain ⟨k, n, t, rfl, ht⟩ := cks_V hr
  exact ⟨_, _, _, _, rfl, ha, ht⟩
theorem cks_W {l : List AV} (h : cksOk ksW l) : ∃ s b k n t, l = [.str s, .bool b, .int .i64 k, .int .i64 n, .str t] := by
  obtain ⟨a, r, rfl, ha, b, r', rfl, hb, hr⟩ := h
  cases a <;> simp only [ckOk] at ha <;> try exact ha.elim
  cases b <;> simp only [ckOk] at hb <;> try exact hb.elim
  obtain ⟨k, n, t, rfl, ht⟩ := cks_V hr
  exact ⟨_, _, _, _, _, rfl⟩
theorem cks_T {l : List AV} (h : cksOk ksT l) : ∃ s, l = [.str s] := by
  obtain ⟨a, r, rfl, ha, rfl⟩ := h
  cases a <;> simp only [ckOk] at ha <;> try exact ha.elim
  exact ⟨_, rfl⟩
def freshAt (M : List (List AV)) (l : List AV) : Prop := ∀ k r, l = .str k :: r → clean (getV k M) = r
def freshP (L M : List (List AV)) : Prop := ∀ i (hi : i < L.length), freshAt M L[i]
def sameKey (l m : List AV) : Prop := l.head? = m.head?
def touchP (L W : List (List AV)) : Prop := ∃ i, ∃ hi : i < L.length, ∃ j, ∃ hj : j < W.length, sameKey L[i] W[j]
theorem sameKey_mk (s t : List UInt8) (l m : List AV) : sameKey (.str s :: l) (.str t :: m) ↔ s = t := by simp [sameKey]
theorem eq_idx {L M : List (List AV)} (hl : L.length = M.length) (h : ∀ i (hi : i < L.length) (hj : i < M.length), L[i] = M[i]) : L = M := List.ext_getElem hl h
theorem ne_idx {L M : List (List AV)} {i : Nat} (hi : i < L.length) (hj : i < M.length) (h : L[i] ≠ M[i]) : L ≠ M := fun e => by subst e; exact h rfl
theorem ne_len {L M : List (List AV)} (h : L.length ≠ M.length) : L ≠ M := fun e => by subst e; exact h rfl
end Go.Ai

/-! The elements of lists, as they are read. -/
namespace Go.Ai
open Go
theorem rd_low {h : Heap} {F b o n : Nat} {l : List AV} (hw : Wf ⟨h, F⟩) (hr : rdAB (hget h b) o n = some l) : b < ky F 0 := by
  obtain ⟨ab, e, hd⟩ := rdAB_ne hr
  exact hw b ab e hd
variable {h h1 : Heap} {F i : Nat} {a : AV} {L : List (List AV)}
theorem item_at (hw : Wf ⟨h, F⟩) (hl : LstP h ksI a L) (hs : SameH h h1) (hi : i < L.length) : ∃ b o eo cap s k n t, a = .slice b o eo L.length cap ∧ b < ky F 0 ∧ L[i] = [.str s, .int .i64 k, .int .i64 n, .str t] ∧ s.length ≤ maxLen ∧ t.length ≤ maxLen ∧
    rdAB (hget h1 b) (o + i * 4) 4 = some [.str s, .int .i64 k, .int .i64 n, .str t] ∧ rdAB (hget h1 b) (o + i * 4) 1 = some [.str s] ∧ rdAB (hget h1 b) (o + i * 4 + 1) 3 = some [.int .i64 k, .int .i64 n, .str t] := by
  obtain ⟨b, o, eo, cap, e, h0, hp⟩ := hl.at hi
  obtain ⟨s, k, n, t, el, hsl, htl⟩ := cks_I (hl.ok hi)
  rw [el] at h0 hp
  exact ⟨b, o, eo, cap, s, k, n, t, e, rd_low hw h0, el, hsl, htl, hs.rd h0, hs.rd (hp 0 1 (by decide)), hs.rd (hp 1 3 (by decide))⟩
theorem value_at (hw : Wf ⟨h, F⟩) (hl : LstP h ksV a L) (hs : SameH h h1) (hi : i < L.length) : ∃ b o eo cap k n t, a = .slice b o eo L.length cap ∧ b < ky F 0 ∧ L[i] = [.int .i64 k, .int .i64 n, .str t] ∧
    rdAB (hget h1 b) (o + i * 3) 3 = some [.int .i64 k, .int .i64 n, .str t] := by
  obtain ⟨b, o, eo, cap, e, h0, hp⟩ := hl.at hi
  obtain ⟨k, n, t, el, htl⟩ := cks_V (hl.ok hi)
  rw [el] at h0 hp
  exact ⟨b, o, eo, cap, k, n, t, e, rd_low hw h0, el, hs.rd h0⟩
theorem write_at (hw : Wf ⟨h, F⟩) (hl : LstP h ksW a L) (hs : SameH h h1) (hi : i < L.length) : ∃ b o eo cap s d k n t, a = .slice b o eo L.length cap ∧ b < ky F 0 ∧ L[i] = [.str s, .bool d, .int .i64 k, .int .i64 n, .str t] ∧
    rdAB (hget h1 b) (o + i * 5) 5 = some [.str s, .bool d, .int .i64 k, .int .i64 n, .str t] ∧ rdAB (hget h1 b) (o + i * 5) 1 = some [.str s] := by
  obtain ⟨b, o, eo, cap, e, h0, hp⟩ := hl.at hi
  obtain ⟨s, d, k, n, t, el⟩ := cks_W (hl.ok hi)
  rw [el] at h0 hp
  exact ⟨b, o, eo, cap, s, d, k, n, t, e, rd_low hw h0, el, hs.rd h0, hs.rd (hp 0 1 (by decide))⟩
theorem text_at (hw : Wf ⟨h, F⟩) (hl : LstP h ksT a L) (hs : SameH h h1) (hi : i < L.length) : ∃ b o eo cap s, a = .slice b o eo L.length cap ∧ b < ky F 0 ∧ L[i] = [.str s] ∧ rdAB (hget h1 b) (o + i * 1) 1 = some [.str s] := by
  obtain ⟨b, o, eo, cap, e, h0, hp⟩ := hl.at hi
  obtain ⟨s, el⟩ := cks_T (hl.ok hi)
  rw [el] at h0 hp
  exact ⟨b, o, eo, cap, s, e, rd_low hw h0, el, hs.rd h0⟩
theorem out_eq {v v' : AV} {s : St} (h : v = v') : Out.val v s = Out.val v' s := by rw [h]
theorem av_self_slice {b o eo n : Nat} {cap : Option Nat} : avEq (.slice b o eo n cap) (.slice b o eo n cap) = true := by simp [avEq]
theorem av_self_L {ks : List CK} (hl : LstP h ks a L) : avEq a a = true := by
  rcases hl.2.2 with ⟨rfl | rfl, _⟩ | ⟨b, o, eo, cap, rfl, _⟩
  · rfl
  · rfl
  · exact av_self_slice
theorem Kin_V {g : GetF} {l : List AV} (h : cksOk ksV l) : Kin g (.agg l) := by
  obtain ⟨k, n, t, rfl, _⟩ := cks_V h
  simp [Kin, Kins]
theorem clean_shape {l : List AV} (h : cksOk ksV l) : cksOk ksV (clean l) := by
  unfold clean
  split
  · exact h
  · exact ⟨_, _, rfl, ⟨rfl, by decide, by decide⟩, _, _, rfl, ⟨rfl, by decide, by decide⟩, _, _, rfl, by simp [ckOk], rfl⟩
theorem sameT {h : Heap} : SameH h h = True := eq_true (SameH.refl h)
theorem sameS {h h' : Heap} {F c : Nat} {b : AB} (hw : Wf ⟨h, F⟩) : SameH h (hset h' (ky F c) b) = SameH h h' := by
  apply propext
  constructor
  · intro hs i ab hi hd
    have := hs i ab hi hd
    have hl := hw i ab hi hd
    have hl2 := ky_le F c
    simp only at hl
    rw [hget_hset, if_neg (by omega)] at this
    exact this
  · intro hs; exact SameH.hset hw hs (ky_le _ _)
theorem rLen1_str {P : Program} {h : Heap} {t : TypeId} {s : List UInt8} : rLen1 P h t (some (.str s)) = lenA P t (.str s) := rfl
theorem rLen1_sl {P : Program} {h : Heap} {t : TypeId} {b o eo n : Nat} {cap : Option Nat} : rLen1 P h t (some (.slice b o eo n cap)) = lenA P t (.slice b o eo n cap) := rfl
end Go.Ai

/-! A table with one more call; new lists. -/
namespace Go.Ai
open Go
variable {P : Program} {G : Glob}
theorem snd_one {f : FuncId} {args : List AV} {s : St} {x : Out} (h : SndQ P G f args s (fun o => o = x)) : Snd P G f args s [x] := by
  intro base ρ w vs rv rm
  obtain ⟨outs, h1, h2⟩ := h
  refine (h1 base ρ w vs rv rm).mono ?_
  rintro e w' ⟨ρ', ⟨v', s', u, ho, r⟩ | ⟨v', s', u, ho, r⟩⟩
  · exact ⟨ρ', .inl ⟨v', s', u, List.mem_singleton.2 (h2 _ ho), r⟩⟩
  · exact ⟨ρ', .inr ⟨v', s', u, List.mem_singleton.2 (h2 _ ho), r⟩⟩
noncomputable def pointF (K : CallF) (f : FuncId) (args : List AV) (s : St) (outs : List Out) : FuncId → List AV → St → Outs := fun g ar t => open Classical in if g = f ∧ ar = args ∧ t = s then some outs else CallF.fn K g ar t
noncomputable def point (K : CallF) (f : FuncId) (args : List AV) (s : St) (outs : List Out) : CallF := ⟨pointF K f args s outs, fun _ _ _ => none⟩
theorem point_ok {K : CallF} (hK : KOK P G K) {f : FuncId} {args : List AV} {s : St} {outs : List Out} (h : Snd P G f args s outs) : KOK P G (point K f args s outs) := KOK.table fun g ar t o ho => by
  unfold pointF at ho
  split at ho
  · rename_i e
    obtain ⟨rfl, rfl, rfl⟩ := e
    cases ho; exact h
  · exact hK.fn _ _ _ _ ho
theorem point_hit {K : CallF} {f : FuncId} {args : List AV} {s : St} {outs : List Out} : CallF.fn (point K f args s outs) f args s = some outs := if_pos ⟨rfl, rfl, rfl⟩
theorem point_miss {K : CallF} {f g : FuncId} {args ar : List AV} {s t : St} {outs : List Out} (hne : g ≠ f) : CallF.fn (point K f args s outs) g ar t = CallF.fn K g ar t := if_neg fun e => hne e.1
theorem wf_up {h : Heap} {F F' : Nat} (hw : Wf ⟨h, F⟩) (hle : F ≤ F') : Wf ⟨h, F'⟩ := by
  intro i ab hi hd
  have h1 := hw i ab hi hd
  have : ky F 0 ≤ ky F' 0 := by unfold ky; omega
  simp only at h1 ⊢
  omega
theorem wf_hset {h : Heap} {F c : Nat} {b : AB} (hw : Wf ⟨h, F + 1⟩) (hc : c ≤ 1267650600228229401496703205375) : Wf ⟨hset h (ky F c) b, F + 1⟩ := by
  intro i ab hi hd
  simp only at hi ⊢
  rw [hget_hset] at hi
  split at hi
  · rename_i e; subst e; exact ky_up (by omega) hc
  · exact hw i ab hi hd
theorem lst_new {h : Heap} {ks : List CK} {L : List (List AV)} {k : Nat} {cap : Option Nat} (hok : ∀ l ∈ L, cksOk ks l) (hm : L.length ≤ maxLen) (hg : hget h k = some (mkRow L.flatten ks.length)) : LstP h ks (.slice k 0 0 L.length cap) L := by
  refine ⟨hok, hm, .inr ⟨k, 0, 0, cap, rfl, fun hp => ?_⟩⟩
  obtain ⟨f1, _⟩ := flatten_get (L := L) (es := ks.length) fun l hl => (hok l hl).length
  rw [hg, rdAB_row, if_pos (by omega), List.drop_zero, List.take_of_length_le (by omega)]
theorem lst_none {h : Heap} {ks : List CK} {b o eo : Nat} {cap : Option Nat} : LstP h ks (.slice b o eo 0 cap) [] := ⟨by simp, by simp, .inr ⟨b, o, eo, cap, rfl, by simp⟩⟩
theorem src_L {h : Heap} {ks : List CK} {a : AV} {L : List (List AV)} (hl : LstP h ks a L) (hp : 0 < L.length) : srcCells h ks.length a = some (L.length, L.flatten) := by
  rcases hl.2.2 with ⟨_, rfl⟩ | ⟨b, o, eo, cap, rfl, hr⟩
  · simp at hp
  · have := hr hp
    obtain ⟨n, hn⟩ : ∃ n, L.length = n + 1 := ⟨L.length - 1, by omega⟩
    rw [hn] at this ⊢
    simp only [srcCells, readCells_eq, Nat.succ_eq_add_one, this]
theorem src_none {h : Heap} {ks : List CK} {a : AV} (hl : LstP h ks a []) : srcCells h ks.length a = some (0, []) := by
  rcases hl.2.2 with ⟨rfl | rfl, _⟩ | ⟨b, o, eo, cap, rfl, hr⟩ <;> rfl
end Go.Ai

/-! Sorted and made single, a list of numbers below n is the numbers below n that stand in it. -/
namespace Go.Ai
open Go
theorem strict_ext : ∀ {a b : List Int}, a.Pairwise (· < ·) → b.Pairwise (· < ·) → (∀ x, x ∈ a ↔ x ∈ b) → a = b
  | [], [], _, _, _ => rfl
  | [], b :: bs, _, _, h => absurd ((h b).2 List.mem_cons_self) (by simp)
  | a :: ar, [], _, _, h => absurd ((h a).1 List.mem_cons_self) (by simp)
  | a :: ar, b :: bs, ha, hb, h => by
    rw [List.pairwise_cons] at ha hb
    have e : a = b := by
      rcases List.mem_cons.1 ((h a).1 List.mem_cons_self) with e | e
      · exact e
      · rcases List.mem_cons.1 ((h b).2 List.mem_cons_self) with e' | e'
        · exact e'.symm
        · have := hb.1 a e
          have := ha.1 b e'
          omega
    subst e
    rw [strict_ext ha.2 hb.2 fun x => ?_]
    constructor
    · intro hx
      rcases List.mem_cons.1 ((h x).1 (List.mem_cons_of_mem _ hx)) with e | e
      · have := ha.1 x hx; omega
      · exact e
    · intro hx
      rcases List.mem_cons.1 ((h x).2 (List.mem_cons_of_mem _ hx)) with e | e
      · have := hb.1 x hx; omega
      · exact e
theorem compact_eq (zs : List Int) : Lib.compact zs = ((List.range zs.length).filter (Lib.keeps zs.toArray)).map (zs[·]!) := by
  unfold Lib.compact Lib.compactUpTo
  refine List.map_congr_left fun i _ => ?_
  simp
theorem compact_le (zs : List Int) : (Lib.compact zs).length ≤ zs.length := by
  rw [compact_eq, List.length_map]
  exact Nat.le_trans (List.length_filter_le _ _) (by simp)
theorem keeps_iff (zs : List Int) (i : Nat) : Lib.keeps zs.toArray i = true ↔ i = 0 ∨ zs[i]! ≠ zs[i - 1]! := by
  simp [Lib.keeps]
theorem get!_mem {zs : List Int} {i : Nat} (h : i < zs.length) : zs[i]! ∈ zs := by
  rw [getElem!_pos zs i h]; exact List.getElem_mem h
theorem mem_compact (zs : List Int) (x : Int) : x ∈ Lib.compact zs ↔ x ∈ zs := by
  rw [compact_eq]
  constructor
  · intro hx
    obtain ⟨i, hi, rfl⟩ := List.mem_map.1 hx
    have := List.mem_range.1 (List.mem_filter.1 hi).1
    exact get!_mem this
  · intro hx
    obtain ⟨i, hi, rfl⟩ := List.getElem_of_mem hx
    suffices h : ∀ m i (hi : i < zs.length), i < m → zs[i] ∈ ((List.range zs.length).filter (Lib.keeps zs.toArray)).map (zs[·]!) from h (i + 1) i hi (by omega)
    intro m
    induction m with
    | zero => intro i _ h; omega
    | succ m ih =>
      intro i hi hm
      by_cases hk : Lib.keeps zs.toArray i = true
      · exact List.mem_map.2 ⟨i, List.mem_filter.2 ⟨List.mem_range.2 hi, hk⟩, getElem!_pos zs i hi⟩
      · have h := (not_congr (keeps_iff zs i)).1 hk
        have h0 : i ≠ 0 := fun e => h (.inl e)
        have h1 : zs[i]! = zs[i - 1]! := Decidable.of_not_not fun e => h (.inr e)
        rw [getElem!_pos zs i hi, getElem!_pos zs (i - 1) (by omega)] at h1
        rw [h1]
        exact ih (i - 1) (by omega) (by omega)
theorem compact_strict {zs : List Int} (h : zs.Pairwise (· ≤ ·)) : (Lib.compact zs).Pairwise (· < ·) := by
  rw [compact_eq, List.pairwise_map, List.pairwise_filter]
  refine List.Pairwise.imp_of_mem (R := (· < ·)) (fun {i j} hi hj hlt _ hk => ?_) List.pairwise_lt_range
  have hi := List.mem_range.1 hi
  have hj := List.mem_range.1 hj
  rw [List.pairwise_iff_getElem] at h
  have hle : ∀ a b (ha : a < zs.length) (hb : b < zs.length), a ≤ b → zs[a] ≤ zs[b] := fun a b ha hb hab => by
    rcases Nat.lt_or_eq_of_le hab with c | c
    · exact h a b ha hb c
    · subst c; exact Int.le_refl _
  rcases (keeps_iff zs j).1 hk with e | e
  · omega
  · have hj1 : j - 1 < zs.length := by omega
    rw [getElem!_pos zs j hj, getElem!_pos zs (j - 1) hj1] at e
    rw [getElem!_pos zs i hi, getElem!_pos zs j hj]
    have a1 := hle i (j - 1) hi hj1 (by omega)
    have a2 := hle (j - 1) j hj1 hj (by omega)
    omega
noncomputable def sorted (zs : List Int) : List Int := zs.mergeSort fun x y => decide (x ≤ y)
theorem sorted_len (zs : List Int) : (sorted zs).length = zs.length := List.length_mergeSort _
theorem sorted_le (zs : List Int) : (sorted zs).Pairwise (· ≤ ·) := by
  have := List.pairwise_mergeSort (le := fun x y : Int => decide (x ≤ y)) (fun a b c h1 h2 => by simp at *; omega) (fun a b => by simp; omega) zs
  exact this.imp fun h => by simpa using h
theorem sorted_mem (zs : List Int) (x : Int) : x ∈ sorted zs ↔ x ∈ zs := List.mem_mergeSort
/-- the numbers below n that stand in a list -/
noncomputable def below (zs : List Int) (n : Nat) : List Int := ((List.range n).map Int.ofNat).filter fun x => decide (x ∈ zs)
theorem below_succ (zs : List Int) (n : Nat) : below zs (n + 1) = below zs n ++ (if (n : Int) ∈ zs then [(n : Int)] else []) := by
  unfold below
  rw [List.range_succ, List.map_append, List.filter_append]
  congr 1
  simp only [List.map_cons, List.map_nil, List.filter_cons, List.filter_nil]
  by_cases h : (n : Int) ∈ zs
  · have h' : Int.ofNat n ∈ zs := h
    rw [if_pos h, if_pos (decide_eq_true h')]; rfl
  · have h' : ¬ Int.ofNat n ∈ zs := h
    rw [if_neg h, if_neg (by simpa using h')]
theorem below_len (zs : List Int) (n : Nat) : (below zs n).length ≤ n := by
  unfold below
  exact Nat.le_trans (List.length_filter_le _ _) (by simp)
theorem single {zs : List Int} {n : Nat} (h : ∀ z ∈ zs, 0 ≤ z ∧ z < n) : Lib.compact (sorted zs) = below zs n := by
  refine strict_ext (compact_strict (sorted_le zs)) ?_ fun x => ?_
  · unfold below
    refine List.Pairwise.filter _ ?_
    rw [List.pairwise_map]
    exact List.pairwise_lt_range.imp fun h => by simpa using h
  · rw [mem_compact, sorted_mem]
    unfold below
    rw [List.mem_filter, decide_eq_true_eq]
    constructor
    · intro hx
      obtain ⟨h0, h1⟩ := h x hx
      exact ⟨List.mem_map.2 ⟨x.toNat, List.mem_range.2 (by omega), by simp; omega⟩, hx⟩
    · exact fun h => h.2
theorem below_nil {zs : List Int} {n : Nat} (h : ∀ z ∈ zs, 0 ≤ z ∧ z < n) (hp : zs ≠ []) : below zs n ≠ [] := by
  intro e
  obtain ⟨z, l, rfl⟩ := List.exists_cons_of_ne_nil hp
  rw [← single h] at e
  have := (mem_compact (sorted (z :: l)) z).2 ((sorted_mem _ _).2 List.mem_cons_self)
  rw [e] at this
  cases this
end Go.Ai

/-! Calls that make one new block; the library's sort. -/
namespace Go.Ai
open Go
variable {P : Program} {G : Glob}

/-- a value in which no name is -/
def Flatv (a : AV) : Prop := ∀ (ρ ρ' : Map) (v : Value), RV ρ a v → RV ρ' a v
theorem flat_int (k : IntKind) (n : Int) : Flatv (.int k n) := fun _ _ _ r => r
theorem flat_str (s : List UInt8) : Flatv (.str s) := fun _ _ _ r => r
theorem ky_KK (F : Nat) : ky F 0 = F * KK := by unfold ky; rw [Nat.add_zero, Nat.mul_comm]; exact congrArg (F * ·) (Eq.trans rfl (Eq.refl KK))

/-- A CALL THAT HANDS BACK A NEW LIST: its garbage is forgotten. -/
theorem snd_block {f : FuncId} {args : List AV} {h : Heap} {F n es : Nat} {cap : Option Nat} {l : List AV} (hl : ∀ a ∈ l, Flatv a)
    (hs : Wf ⟨h, F⟩ → SndQ P G f args ⟨h, F⟩ (fun o => ∃ k h' F', o = .val (.slice k 0 0 n cap) ⟨h', F'⟩ ∧ SameH h h' ∧ ky F 0 ≤ k ∧ hget h' k = some (mkRow l es))) :
    Snd P G f args ⟨h, F⟩ [.val (.slice (ky F 0) 0 0 n cap) ⟨hset h (ky F 0) (mkRow l es), F + 1⟩] := by
  refine snd_wf fun hw => ?_
  intro base ρ w vs rv rm
  obtain ⟨outs, h1, h2⟩ := hs hw
  refine (h1 base ρ w vs rv rm).mono ?_
  rintro e w' ⟨ρ', ⟨v', s', u, ho, he, ru, hadv⟩ | ⟨v', s', u, ho, he, ru, hadv⟩⟩
  · obtain ⟨k, h', F', e1, hsame, hk, hrow⟩ := h2 _ ho
    cases e1
    obtain ⟨en, hen, ru⟩ := ru
    have hkk := ky_KK F
    have hnone : ρ (ky F 0) = none := rm.hi _ (by rw [hkk]; exact Nat.le_refl _)
    have hm := ext_mono (e := en) hnone
    have hnd : mkRow l es ≠ .dead := by unfold mkRow; simp
    obtain ⟨e', ob, g1, g2, g3, g4⟩ := hadv.st.rh.blk k _ hrow hnd
    rw [hen] at g1; cases g1
    have hlk : live (hget h') k := ⟨_, hrow, by unfold mkRow; simp⟩
    have hold : ∀ i ab, hget h i = some ab → ab ≠ .dead → i < ky F 0 := fun i ab hi hd => hw i ab hi hd
    have lold : ∀ i, i ≠ ky F 0 → live (hget (hset h (ky F 0) (mkRow l es))) i → live (hget h) i := by
      rintro i hne ⟨x, hx, hd⟩
      rw [hget_hset, if_neg hne] at hx
      exact ⟨x, hx, hd⟩
    have rold : ∀ i, i ≠ ky F 0 → ext ρ (ky F 0) en i = ρ i := fun i hne => by simp [ext, hne]
    have lup : ∀ i, live (hget h) i → live (hget h') i := by
      rintro i ⟨x, hx, hd⟩
      exact ⟨x, hsame i x hx hd.nd, hd⟩
    have apart : ∀ j ej, live (hget h) j → ρ j = some ej → ej.b ≠ en.b := by
      intro j ej lj hj hb
      have hkj := hadv.st.rh.inj j k ej en (lup j lj) hlk (hadv.st.mono _ _ hj) hen hb
      obtain ⟨x, hx, hd⟩ := lj
      have := hold j x hx hd.nd
      omega
    refine ⟨ext ρ (ky F 0) en, .inl ⟨_, _, u, List.mem_singleton.2 rfl, he, ⟨en, ext_self _ _, ru⟩, ⟨⟨hm, hadv.st.keeps, ⟨fun i ab hi hd => ?_, fun i j ei ej li lj hi hj hb => ?_⟩, ?_⟩, Nat.le_succ F, fun i hi _ => ?_, fun i hi => ?_⟩⟩⟩
    · simp only at hi
      rw [hget_hset] at hi
      split at hi
      · rename_i heq
        subst heq
        cases hi
        refine ⟨en, ob, ext_self _ _, g2, g3, ?_⟩
        obtain ⟨c, ty, lo, hi', k4, kt, k5, k6, k7, k8, k9⟩ := g4
        refine ⟨c, ty, lo, hi', k4, kt, k5, k6, k7, k8, fun i hi av hav => ?_⟩
        obtain ⟨v, hv, rv⟩ := k9 i hi av hav
        rw [T.get_setList] at hav
        split at hav
        · exact ⟨v, hv, hl av (List.mem_of_getElem? hav) _ _ _ rv⟩
        · exact absurd hav (by simp [T.get_e])
      · rename_i hne
        obtain ⟨e0, ob0, q1, q2, q3, q4⟩ := rm.rh.blk i ab hi hd
        obtain ⟨e1, ob1, p1, p2, p3, p4⟩ := hadv.st.rh.blk i ab (hsame i ab hi hd) hd
        rw [hadv.st.mono _ _ q1] at p1; cases p1
        exact ⟨_, ob1, hm _ _ q1, p2, p3, (rb_two hadv.st.mono q4 p4).mono hm⟩
    · by_cases c1 : i = ky F 0
      · by_cases c2 : j = ky F 0
        · rw [c1, c2]
        · rw [c1, ext_self] at hi; cases hi
          rw [rold j c2] at hj
          exact absurd hb.symm (apart j ej (lold j c2 lj) hj)
      · rw [rold i c1] at hi
        by_cases c2 : j = ky F 0
        · rw [c2, ext_self] at hj; cases hj
          exact absurd hb (apart i ei (lold i c1 li) hi)
        · rw [rold j c2] at hj
          exact rm.rh.inj i j ei ej (lold i c1 li) (lold j c2 lj) hi hj hb
    · rintro b ⟨i, ei, li, hi, hb⟩
      by_cases c1 : i = ky F 0
      · rw [c1, ext_self] at hi; cases hi
        exact hadv.st.grow b ⟨k, en, hlk, hen, hb⟩
      · rw [rold i c1] at hi
        exact .inl ⟨i, ei, lold i c1 li, hi, hb⟩
    · exact rold i (by simp only at hi; omega)
    · have h2 : (F + 1) * KK = F * KK + KK := succ_KK F
      have hKK : 0 < KK := by decide
      simp only at hi
      rw [rold i (by omega)]
      exact rm.hi i (by simp only; omega)
  · obtain ⟨k, h', F', e1, _⟩ := h2 _ ho
    cases e1

/-! ### the library's sort of numbers -/
def ints (zs : List Int) : List AV := zs.map (AV.int .i64)
theorem ints_len (zs : List Int) : (ints zs).length = zs.length := by simp [ints]
theorem ints_flat (zs : List Int) : ∀ a ∈ ints zs, Flatv a := by
  intro a ha
  obtain ⟨z, _, rfl⟩ := List.mem_map.1 ha
  exact flat_int _ _
theorem ints_inj : ∀ {a b : List Int}, ints a = ints b → a = b
  | [], [], _ => rfl
  | [], b :: bs, h => by simp [ints] at h
  | a :: ar, [], h => by simp [ints] at h
  | a :: ar, b :: bs, h => by
    simp only [ints, List.map_cons, List.cons.injEq, AV.int.injEq, true_and] at h
    rw [h.1, ints_inj h.2]
theorem mkRow_inj {a b : List AV} {es es' : Nat} (h : mkRow a es = mkRow b es') : a = b := by
  have hl : a.length = b.length := by unfold mkRow at h; injection h
  have h1 := rdAB_row a es 0 a.length
  have h2 := rdAB_row b es' 0 b.length
  rw [if_pos (by omega), List.drop_zero, List.take_of_length_le (by omega)] at h1 h2
  rw [h, hl, h2] at h1
  exact (Option.some.inj h1).symm
/-- the numbers that a block holds -/
noncomputable def rowInts (b : Option AB) : Option (List Int) := open Classical in if e : ∃ zs, b = some (mkRow (ints zs) 1) then some e.choose else none
theorem rowInts_eq {b : Option AB} {zs : List Int} (h : b = some (mkRow (ints zs) 1)) : rowInts b = some zs := by
  unfold rowInts
  rw [dif_pos ⟨zs, h⟩]
  have hc := Exists.choose_spec (⟨zs, h⟩ : ∃ zs, b = some (mkRow (ints zs) 1))
  exact congrArg some (ints_inj (mkRow_inj (Option.some.inj (hc.symm.trans h))))
theorem rowInts_p {b : Option AB} {zs : List Int} (h : rowInts b = some zs) : b = some (mkRow (ints zs) 1) := by
  unfold rowInts at h
  split at h
  · rename_i e
    have := e.choose_spec
    cases h; exact this
  · cases h

/-- the row of a slice of numbers, in the world -/
theorem holds_row {base : Nat} {ρ : Map} {g : GetF} {w : World} (rh : RH ρ base g w) {k : Nat} {zs : List Int} (hg : g k = some (mkRow (ints zs) 1)) {e : Ent} (he : ρ k = some e) :
    ∃ c ty lo hi, base ≤ e.b ∧ e.b < w.heap.size ∧ w.heap[e.b]? = some (.cells c ty (lo, hi)) ∧ e.o + zs.length ≤ c.size ∧ e.o + e.k ≤ c.size ∧ zs.length ≤ e.k ∧ (c.size ≤ lo ∨ hi ≤ lo) ∧ Go.Sort.Holds (Value.int .i64) w e.b e.o zs.toArray := by
  obtain ⟨e', ob, g1, g2, g3, c, ty, lo, hi, k4, _, k5, k6, k7, k8, k9⟩ := rh.blk k _ hg (by unfold mkRow; simp)
  rw [he] at g1; cases g1
  subst k4
  rw [ints_len] at k5 k7 k9
  rw [Nat.mul_one] at k6 k7
  refine ⟨c, ty, lo, hi, g2, (Array.getElem?_eq_some_iff.1 g3).1, g3, k5, k6, k7 (by omega), k8, fun j hj => ?_⟩
  rw [List.size_toArray] at hj
  have hget : (T.setList (T.e : T AV) 0 (ints zs)).get j = some (.int .i64 zs[j]) := by
    rw [T.get_setList, if_pos (by rw [ints_len]; omega)]
    simp [ints, hj]
  obtain ⟨v, hv, rv⟩ := k9 j hj _ hget
  simp only [RV] at rv
  subst rv
  have hlt : e.o + j < c.size := by omega
  refine ⟨?_, ?_⟩
  · simp only [World.cell?, g3]
    rw [getElem!_pos _ j (by simpa using hj)]
    simpa using hv
  · simp only [World.frozen?, g3]
    rcases k8 with h8 | h8
    · have : ¬ lo ≤ e.o + j := by omega
      simp [this]
    · by_cases h : lo ≤ e.o + j
      · have : ¬ e.o + j < hi := by omega
        simp [this]
      · simp [h]
/-- the world behind it -/
theorem adv_row {base : Nat} {ρ : Map} {h : Heap} {F : Nat} {w : World} (rm : RM G base ρ ⟨h, F⟩ w) {k : Nat} {zs ys : List Int} (hg : hget h k = some (mkRow (ints zs) 1)) (hlen : ys.length = zs.length) {e : Ent} (he : ρ k = some e) (n : Nat) (os : Array Obj) :
    Adv base (fun _ => False) ρ ⟨h, F⟩ w ρ ⟨hset h k (mkRow (ints ys) 1), F⟩ (Go.Sort.grow (Go.Sort.putRow (Value.int .i64) (Go.Sort.ahead w n) e.b e.o ys.toArray) os) := by
  obtain ⟨c, ty, lo, hi, b0, b1, hob, hs1, hs2, hs3, hfr, hH⟩ := holds_row rm.rh hg he
  have hmine : Mine (mkRow (ints zs) 1) := by unfold mkRow; simp
  have hat : (Go.Sort.putRow (Value.int .i64) (Go.Sort.ahead w n) e.b e.o ys.toArray).heap[e.b]? = some (.cells (Go.Sort.putCells (Value.int .i64) e.o ys.toArray c) ty (lo, hi)) := by
    simp only [Go.Sort.putRow, Go.Sort.mapBlock, Go.Sort.heap_ahead, Array.getElem?_modify, if_true, hob, Option.map_some, Go.Sort.onCells]
  have hoth : ∀ b, b ≠ e.b → (Go.Sort.putRow (Value.int .i64) (Go.Sort.ahead w n) e.b e.o ys.toArray).heap[b]? = w.heap[b]? := fun b hb => by
    simp only [Go.Sort.putRow, Go.Sort.mapBlock, Go.Sort.heap_ahead, Array.getElem?_modify, if_neg (Ne.symm hb)]
  have hst : Stp ρ base (hget h) w ρ (hget (hset h k (mkRow (ints ys) 1))) (Go.Sort.putRow (Value.int .i64) (Go.Sort.ahead w n) e.b e.o ys.toArray) := by
    refine Stp.upd rm.rh hg hmine (by unfold mkRow; simp) he rfl rfl rfl (by rw [Go.Sort.size_putRow]; rfl) hat hoth ?_
    have hsz : (Go.Sort.putCells (Value.int .i64) e.o ys.toArray c).size = c.size := by simp [Go.Sort.putCells]
    refine ⟨_, ty, lo, hi, rfl, fun _ h => (by cases h), ?_, ?_, fun _ => ?_, ?_, fun i hi' av hav => ?_⟩
    · rw [hsz, ints_len]; omega
    · rw [hsz]; omega
    · rw [ints_len]; omega
    · rw [hsz]; exact hfr
    · rw [ints_len] at hi'
      rw [T.get_setList, if_pos (by rw [ints_len]; omega)] at hav
      have hv : av = .int .i64 ys[i] := by
        simp only [Nat.sub_zero, ints, List.getElem?_map, List.getElem?_eq_getElem hi', Option.map_some, Option.some.injEq] at hav
        exact hav.symm
      subst hv
      refine ⟨.int .i64 ys[i], ?_, rfl⟩
      have hlt : e.o + i < c.size := by omega
      simp only [Go.Sort.putCells, Array.getElem?_mapIdx, Array.getElem?_eq_getElem hlt, Option.map_some]
      rw [if_pos (by rw [List.size_toArray]; omega), show e.o + i - e.o = i by omega, getElem!_pos _ i (by simpa using hi')]
      simp
  have a1 : Adv base (fun _ => False) ρ ⟨h, F⟩ w ρ ⟨hset h k (mkRow (ints ys) 1), F⟩ (Go.Sort.putRow (Value.int .i64) (Go.Sort.ahead w n) e.b e.o ys.toArray) := ⟨hst, Nat.le_refl _, fun _ _ _ => rfl, rm.hi⟩
  refine a1.trans ((rm.adv a1).keeps ⟨rfl, rfl, rfl, by simp [Go.Sort.grow], fun b hb _ => ?_⟩)
  simp only [Go.Sort.grow]
  exact Array.getElem?_append_left hb

def SortC (P : Program) (f : FuncId) : Prop := ∀ (blk off cap : Nat) (zs : List Int) (w : World), Go.Sort.Holds (Value.int .i64) w blk off zs.toArray → blk < w.heap.size → zs.length < 4611686018427387904 →
  Calls P f #[.slice (some ⟨blk, off, none⟩) zs.length cap] w fun e w' => e = .returned (.tuple #[]) ∧ ∃ n os, w' = Go.Sort.grow (Go.Sort.putRow (Value.int .i64) (Go.Sort.ahead w n) blk off (zs.mergeSort fun x y => decide (x ≤ y)).toArray) os
def CompC (P : Program) (f : FuncId) : Prop := ∀ (blk off cap : Nat) (zs : List Int) (w : World), Go.Sort.Holds (Value.int .i64) w blk off zs.toArray → zs.length ≤ 9223372036854775807 → zs.length ≤ cap →
  Calls P f #[.slice (some ⟨blk, off, none⟩) zs.length cap] w fun e w' => e = .returned (.slice (some ⟨blk, off, none⟩) (Lib.compact zs).length cap) ∧ ∃ q, w' = Go.Sort.putRow (Value.int .i64) (Go.Sort.ahead w q) blk off (Lib.compact zs ++ List.replicate (zs.length - (Lib.compact zs).length) 0).toArray
theorem snd_sort (hn : NoNum P) {f : FuncId} {fn : Func} {c : Code} (hf : P.funcs[f]? = some fn) (hb : fn.body = some c) (hc : SortC P f) {h : Heap} {F k : Nat} {zs : List Int} (hg : hget h k = some (mkRow (ints zs) 1)) (hp : 0 < zs.length) (hm : zs.length ≤ 1000000) :
    Snd P G f [.slice k 0 0 zs.length none] ⟨h, F⟩ [.val (.tup []) ⟨hset h k (mkRow (ints (sorted zs)) 1), F⟩] := by
  intro base ρ w vs rv rm
  obtain ⟨v, vs', ⟨e, he, o', r1, r2, r3⟩, rfl, rfl⟩ := rv
  obtain ⟨c', ty, lo, hi, b0, b1, hob, hs1, hs2, hs3, hfr, hH⟩ := holds_row rm.rh hg he
  have ho := r2 (by omega)
  subst ho
  subst r3
  rw [callFunc_enter hn hf hb]
  refine Calls.mono (hc e.b (e.o + 0) (e.k - 0) zs w hH b1 (by omega)) ?_
  rintro x w' ⟨rfl, n, os, rfl⟩
  exact ⟨ρ, .inl ⟨.tup [], _, .tuple #[], List.mem_singleton.2 rfl, rfl, ⟨[], rfl, rfl⟩, adv_row rm hg (sorted_len zs) he n os⟩⟩
theorem snd_compact (hn : NoNum P) {f : FuncId} {fn : Func} {c : Code} (hf : P.funcs[f]? = some fn) (hb : fn.body = some c) (hc : CompC P f) {h : Heap} {F k : Nat} {zs : List Int} (hg : hget h k = some (mkRow (ints zs) 1)) (hp : 0 < zs.length) (hm : zs.length ≤ 1000000) :
    Snd P G f [.slice k 0 0 zs.length none] ⟨h, F⟩ [.val (.slice k 0 0 (Lib.compact zs).length none) ⟨hset h k (mkRow (ints (Lib.compact zs ++ List.replicate (zs.length - (Lib.compact zs).length) 0)) 1), F⟩] := by
  intro base ρ w vs rv rm
  obtain ⟨v, vs', ⟨e, he, o', r1, r2, r3⟩, rfl, rfl⟩ := rv
  obtain ⟨c', ty, lo, hi, b0, b1, hob, hs1, hs2, hs3, hfr, hH⟩ := holds_row rm.rh hg he
  have ho := r2 (by omega)
  subst ho
  subst r3
  have hle := compact_le zs
  rw [callFunc_enter hn hf hb]
  refine Calls.mono (hc e.b (e.o + 0) (e.k - 0) zs w hH (by omega) (by omega)) ?_
  rintro x w' ⟨rfl, n, rfl⟩
  have := adv_row (ys := Lib.compact zs ++ List.replicate (zs.length - (Lib.compact zs).length) 0) rm hg (by simp; omega) he n #[]
  simp only [Go.Sort.grow, Array.append_empty] at this
  exact ⟨ρ, .inl ⟨_, _, _, List.mem_singleton.2 rfl, rfl, ⟨e, he, 0, by omega, fun _ => rfl, rfl⟩, this⟩⟩
/-- a call that changes nothing -/
theorem snd_calls (hn : NoNum P) {f : FuncId} {fn : Func} {c : Code} (hf : P.funcs[f]? = some fn) (hb : fn.body = some c) {args : List AV} {a : AV} {us : List Value} {u : Value} {s : St} (hargs : ∀ ρ vs, RVs ρ args vs → vs = us) (ha : ∀ ρ, RV ρ a u)
    (hc : ∀ w, Calls P f us.toArray w fun e w' => e = .returned u ∧ w' = w) : Snd P G f args s [.val a s] := by
  intro base ρ w vs rv rm
  have := hargs ρ vs rv
  subst this
  rw [callFunc_enter hn hf hb]
  refine Calls.mono (hc w) ?_
  rintro x w' ⟨rfl, rfl⟩
  exact ⟨ρ, .inl ⟨a, s, u, List.mem_singleton.2 rfl, rfl, ha ρ, Adv.refl rm.rh rm.hi⟩⟩
end Go.Ai

/-! The partition of a key. -/
namespace Go.Ai
open Go
variable {P : Program}
theorem wrapU (n : Int) : IntKind.u64.wrap n = n % 18446744073709551616 := by simp [IntKind.wrap, IntKind.bits, IntKind.signed]
theorem wrapI_in {n : Int} (h0 : 0 ≤ n) (h1 : n < 9223372036854775808) : IntKind.i64.wrap n = n := by
  have : IntKind.i64.wrap n = if n % 18446744073709551616 ≥ 9223372036854775808 then n % 18446744073709551616 - 18446744073709551616 else n % 18446744073709551616 := by simp [IntKind.wrap, IntKind.bits, IntKind.signed]
  rw [this]
  split <;> omega
/-- a number that the kernel doesn't look into -/
noncomputable def lock (x : Int) : Int := Classical.choose (⟨x, rfl⟩ : ∃ y, y = x)
theorem lock_eq (x : Int) : lock x = x := Classical.choose_spec (⟨x, rfl⟩ : ∃ y, y = x)
noncomputable def xorU (a b : Int) : Int := lock (IntKind.u64.wrap ((BitVec.ofInt 64 a ^^^ BitVec.ofInt 64 b).toNat : Int))
noncomputable def mulU (a b : Int) : Int := lock (IntKind.u64.wrap (a * b))
noncomputable def remU (a b : Int) : Int := lock (a.tmod b)
noncomputable def wrapL (k : IntKind) (n : Int) : Int := lock (k.wrap n)
theorem intOp_xor {t : TypeId} {a b : Int} : intOp P .xor t .u64 .u64 a b = some (.int .u64 (xorU a b)) := by
  have e : intOp P .xor t .u64 .u64 a b = some (.int .u64 (IntKind.u64.wrap ((BitVec.ofInt 64 a ^^^ BitVec.ofInt 64 b).toNat : Int))) := rfl
  rw [e, xorU, lock_eq]
theorem intOp_mul {t : TypeId} {a b : Int} : intOp P .mul t .u64 .u64 a b = some (.int .u64 (mulU a b)) := by
  rw [mulU, lock_eq]
  simp [intOp, binOp, runP, ofS, Op.intArith, pure]
theorem intOp_rem {t : TypeId} {a b : Int} (h : b ≠ 0) : intOp P .rem t .u64 .u64 a b = some (.int .u64 (remU a b)) := by
  rw [remU, lock_eq]
  simp [intOp, binOp, runP, ofS, Op.intDiv, pure, h]
noncomputable def hstep (h : Int) (c : UInt8) : Int := mulU (xorU h (wrapL .u64 (c.toNat : Int))) 1099511628211
noncomputable def hashI (s : List UInt8) : Int := lock (s.foldl hstep 14695981039346656037)
noncomputable def hashP (s : List UInt8) (i : Nat) : Int := lock ((s.take i).foldl hstep 14695981039346656037)
theorem hashP_0 (s : List UInt8) : hashP s 0 = 14695981039346656037 := by
  rw [hashP, lock_eq, List.take_zero, List.foldl_nil]
theorem hashP_succ {s : List UInt8} {i : Nat} (hi : i < s.length) : hashP s (i + 1) = mulU (xorU (hashP s i) (wrapL .u64 (s[i].toNat : Int))) 1099511628211 := by
  rw [hashP, hashP, lock_eq, lock_eq, List.take_succ_eq_append_getElem hi, List.foldl_append]; rfl
theorem hashP_all (s : List UInt8) : hashP s s.length = hashI s := by rw [hashP, List.take_length]; rfl
theorem hash_pos (s : List UInt8) : 0 ≤ hashI s := by
  suffices h : ∀ (s : List UInt8) (a : Int), 0 ≤ a → 0 ≤ s.foldl hstep a by rw [hashI, lock_eq]; exact h s _ (by decide)
  intro s
  induction s with
  | nil => exact fun a h => h
  | cons c s ih => exact fun a _ => ih _ (by unfold hstep; rw [mulU, lock_eq, wrapU]; exact Int.emod_nonneg _ (by decide))
noncomputable def partI (s : List UInt8) (n : Int) : Int := wrapL .i64 (remU (hashI s) (wrapL .u64 n))
theorem wrapU_in {n : Int} (h1 : 1 ≤ n) (h2 : n ≤ 1000000) : wrapL .u64 n = n := by rw [wrapL, lock_eq, wrapU]; exact Int.emod_eq_of_lt (by omega) (by omega)
theorem partI_lt (s : List UInt8) {n : Int} (h1 : 1 ≤ n) (h2 : n ≤ 1000000) : 0 ≤ partI s n ∧ partI s n < n := by
  unfold partI
  rw [wrapU_in h1 h2, remU, lock_eq, wrapL, lock_eq]
  have a1 : 0 ≤ (hashI s).tmod n := Int.tmod_nonneg _ (hash_pos s)
  have a2 : (hashI s).tmod n < n := Int.tmod_lt_of_pos _ (by omega)
  rw [wrapI_in a1 (by omega)]
  exact ⟨a1, a2⟩
noncomputable def partOf (n : Int) (l : List AV) : Int := match l with
  | [.str s] => partI s n
  | _ => 0
noncomputable def parts (n : Int) (L : List (List AV)) : List Int := L.map (partOf n)
theorem parts_len (n : Int) (L : List (List AV)) : (parts n L).length = L.length := by simp [parts]
theorem parts_lt {n : Int} (h1 : 1 ≤ n) (h2 : n ≤ 1000000) (L : List (List AV)) : ∀ z ∈ parts n L, 0 ≤ z ∧ z < (n.toNat : Int) := by
  intro z hz
  obtain ⟨l, _, rfl⟩ := List.mem_map.1 hz
  have e : (n.toNat : Int) = n := by omega
  rw [e]
  unfold partOf
  split
  · exact partI_lt _ h1 h2
  · omega
end Go.Ai

/-! Lists of numbers that grow; rounds that are known. -/
namespace Go.Ai
open Go
variable {P : Program} {G : Glob} {K : CallF} {m : Nat} {Q : Ex → Fr → St → Prop}

/-! ### a loop, round by round -/
def unQ (P : Program) (G : Glob) (K : CallF) (m : Nat) (b : Code) (k : Nat) (Q : Ex → Fr → St → Prop) : Ex → Fr → St → Prop
  | .normal, fr, s => WR (iter (code P G K m b) k fr s) Q
  | e, fr, s => Q e fr s
theorem r_un {b : Code} {k : Nat} {fr : Fr} {s : St} (h : WR (code P G K m b fr s) (unQ P G K m b k Q)) : WR (iter (code P G K m b) (k + 1) fr s) Q := by
  rw [iter, wr_bind]
  refine h.mono ?_
  intro e fr' s' q
  cases e with
  | normal => exact q
  | exit j => rw [wr_one]; exact q
  | ret => rw [wr_one]; exact q
  | pan v => rw [wr_one]; exact q
theorem r_loopU {b : Code} {fr : Fr} {s : St} (h : WR (iter (code P G K m b) m fr s) Q) : WR (code P G K m (.loop b) fr s) Q := by
  rw [code]; exact h
theorem r_uq_n {b : Code} {k : Nat} {fr : Fr} {s : St} (h : WR (iter (code P G K m b) k fr s) Q) : unQ P G K m b k Q .normal fr s := h
theorem r_uq_exit {b : Code} {k i : Nat} {fr : Fr} {s : St} (h : Q (.exit i) fr s) : unQ P G K m b k Q (.exit i) fr s := h
theorem r_uq_ret {b : Code} {k : Nat} {fr : Fr} {s : St} (h : Q .ret fr s) : unQ P G K m b k Q .ret fr s := h

/-! ### append -/
section
variable {t e t2 e2 : TypeId} {es by' key : Nat} {s : St} {b : AV}
theorem app_nil0 (hu : P.underlying t = some (.slice e)) (h2 : P.underlying t2 = some (.slice e2)) (hs : sizeT P e = some es) (hb : bytesT P e = some by') (hz : zeroOk P e es by' = true)
    (hsrc : srcCells s.h es b = some (0, [])) : appendA P t t2 key s .nils b = some (.nils, s) := by
  simp only [appendA, hu, h2, hs, hb, hz, hsrc]
theorem app_nil (hu : P.underlying t = some (.slice e)) (h2 : P.underlying t2 = some (.slice e2)) (hs : sizeT P e = some es) (hb : bytesT P e = some by') (hz : zeroOk P e es by' = true)
    {n : Nat} {news : List AV} (hsrc : srcCells s.h es b = some (n, news)) (hp : 0 < n) (hn : n ≤ 100000) (hby : by' ≤ 1000) (htg : tagA P e = 0 := by kernel_rfl) : appendA P t t2 key s .nils b = some (.slice key 0 0 n none, s.upd key (mkRow news es)) := by
  obtain ⟨n, rfl⟩ : ∃ k, n = k + 1 := ⟨n - 1, by omega⟩
  have hble : Nat.ble ((2 * (n + 1) + 1024) * by') 281474976710656 = true := by
    rw [Nat.ble_eq]; exact Nat.le_trans (Nat.mul_le_mul (by omega : 2 * (n + 1) + 1024 ≤ 201024) hby) (by decide)
  simp only [appendA, hu, h2, hs, hb, hz, hsrc, hble, htg, rowT_mk, mkRowT_0]
theorem app_same (hu : P.underlying t = some (.slice e)) (h2 : P.underlying t2 = some (.slice e2)) (hs : sizeT P e = some es) (hb : bytesT P e = some by') (hz : zeroOk P e es by' = true)
    {id off eo len : Nat} {cap : Option Nat} {news : List AV} (hsrc : srcCells s.h es b = some (0, news)) (hn : len ≤ 100000) (hby : by' ≤ 1000) : appendA P t t2 key s (.slice id off eo len cap) b = some (.slice id off eo len cap, s) := by
  have hble : Nat.ble ((2 * (len + 0) + 1024) * by') 281474976710656 = true := by
    rw [Nat.ble_eq]; exact Nat.le_trans (Nat.mul_le_mul (by omega : 2 * (len + 0) + 1024 ≤ 201024) hby) (by decide)
  simp only [appendA, hu, h2, hs, hb, hz, hsrc, hble]
theorem app_open (hu : P.underlying t = some (.slice e)) (h2 : P.underlying t2 = some (.slice e2)) (hs : sizeT P e = some es) (hb : bytesT P e = some by') (hz : zeroOk P e es by' = true)
    {id len n : Nat} {l news : List AV} (hsrc : srcCells s.h es b = some (n, news)) (hp : 0 < n) (hes : 0 < es) (hid : hget s.h id = some (mkRow l es)) (hl : l.length = len * es) (hc : allCell news = true) (hn : len + n ≤ 100000) (hby : by' ≤ 1000) :
    appendA P t t2 key s (.slice id 0 0 len none) b = some (.slice key 0 0 (len + n) none, ⟨hset (hset s.h id .dead) key (mkRow (l ++ news) es), s.fc⟩) := by
  obtain ⟨n, rfl⟩ : ∃ k, n = k + 1 := ⟨n - 1, by omega⟩
  have hble : Nat.ble ((2 * (len + (n + 1)) + 1024) * by') 281474976710656 = true := by
    rw [Nat.ble_eq]; exact Nat.le_trans (Nat.mul_le_mul (by omega : 2 * (len + (n + 1)) + 1024 ≤ 201024) hby) (by decide)
  have hfit : Nat.ble (0 + (len + (n + 1)) * es) l.length = false := by
    rw [hl]
    have : ¬ (0 + (len + (n + 1)) * es ≤ len * es) := by
      rw [Nat.zero_add, Nat.add_mul]
      have : 0 < (n + 1) * es := Nat.mul_pos (by omega) hes
      omega
    cases hq : Nat.ble (0 + (len + (n + 1)) * es) (len * es) with
    | false => rfl
    | true => exact absurd (Nat.le_of_ble_eq_true hq) this
  have hrd : readCells s.h id 0 (len * es) = some l := by
    rw [readCells_eq, hid, rdAB_row, if_pos (by omega), List.drop_zero, List.take_of_length_le (by omega)]
  have hbb : (Nat.beq es es && Nat.beq 0 (0 * es) && allCell news) = true := by
    rw [hc, Nat.zero_mul]; simp
  simp only [appendA, hu, h2, hs, hb, hz, hsrc, hble, hid]
  simp only [mkRow, hfit, hbb, hrd, tagM_0, rowT_mk, mkRowT_0, St.upd_eq]
theorem app_fit (hu : P.underlying t = some (.slice e)) (h2 : P.underlying t2 = some (.slice e2)) (hs : sizeT P e = some es) (hb : bytesT P e = some by') (hz : zeroOk P e es by' = true)
    {id len n : Nat} {l news : List AV} (hsrc : srcCells s.h es b = some (n, news)) (hp : 0 < n) (hid : hget s.h id = some (mkRow l es)) (hl : (len + n) * es ≤ l.length) (hnl : news.length = n * es) (hc : allCell news = true) (hn : len + n ≤ 100000) (hby : by' ≤ 1000) :
    appendA P t t2 key s (.slice id 0 0 len none) b = some (.slice id 0 0 (len + n) none, s.withH (hset s.h id (mkRow (ovr l (len * es) news) es))) := by
  obtain ⟨n, rfl⟩ : ∃ k, n = k + 1 := ⟨n - 1, by omega⟩
  have hble : Nat.ble ((2 * (len + (n + 1)) + 1024) * by') 281474976710656 = true := by
    rw [Nat.ble_eq]; exact Nat.le_trans (Nat.mul_le_mul (by omega : 2 * (len + (n + 1)) + 1024 ≤ 201024) hby) (by decide)
  have hfit : Nat.ble (0 + (len + (n + 1)) * es) l.length = true := by rw [Nat.ble_eq]; omega
  have hbb : (Nat.beq es es && Nat.beq 0 (0 * es)) = true := by rw [Nat.zero_mul]; simp
  have hw : writeCells s.h id (0 + len * es) news = some (hset s.h id (mkRow (ovr l (len * es) news) es)) := by
    rw [writeCells_wr, hid, wrAB_row, if_pos ⟨by rw [hnl, Nat.zero_add, ← Nat.add_mul]; exact hl, hc⟩, Nat.zero_add]
  simp only [appendA, hu, h2, hs, hb, hz, hsrc, hble, hid]
  rw [show (mkRow l es) = .row (T.e.setList 0 l) l.length es 0 from rfl]
  simp only [hfit, hbb, hw]
theorem app_cap0 (hu : P.underlying t = some (.slice e)) (h2 : P.underlying t2 = some (.slice e2)) (hs : sizeT P e = some es) (hb : bytesT P e = some by') (hz : zeroOk P e es by' = true)
    {id n : Nat} {news : List AV} (hsrc : srcCells s.h es b = some (n, news)) (hp : 0 < n) (hid : hget s.h id = some (mkRow [] es)) (hn : n ≤ 100000) (hby : by' ≤ 1000) (htg : tagA P e = 0 := by kernel_rfl) :
    appendA P t t2 key s (.slice id 0 0 0 (some 0)) b = some (.slice key 0 0 n none, s.upd key (mkRow news es)) := by
  obtain ⟨n, rfl⟩ : ∃ k, n = k + 1 := ⟨n - 1, by omega⟩
  have hble : Nat.ble ((2 * (0 + (n + 1)) + 1024) * by') 281474976710656 = true := by
    rw [Nat.ble_eq]; exact Nat.le_trans (Nat.mul_le_mul (by omega : 2 * (0 + (n + 1)) + 1024 ≤ 201024) hby) (by decide)
  have h0 : readCells s.h id 0 (0 * es) = some [] := by rw [readCells_eq, hid, Nat.zero_mul, rdAB_row]; rfl
  have h1 : Nat.ble (n + 1) 0 = false := rfl
  simp only [appendA, hu, h2, hs, hb, hz, hsrc, hble, hid, mkRow]
  simp only [Nat.zero_add, h1, h0, List.nil_append, htg, rowT_mk, mkRowT_0, mkRow]
end

/-! ### a list of numbers of this frame -/
def IL (h : Heap) (F lc : Nat) (l : AV) (zs : List Int) : Prop :=
  (l = .nils ∧ zs = []) ∨ (0 < zs.length ∧ ∃ c, c < lc ∧ l = .slice (ky F c) 0 0 zs.length none ∧ hget h (ky F c) = some (mkRow (ints zs) 1))
noncomputable def kill (h : Heap) : AV → Heap
  | .slice k _ _ _ _ => hset h k .dead
  | _ => h
theorem IL.nil {h : Heap} {F lc : Nat} : IL h F lc .nils [] := .inl ⟨rfl, rfl⟩
theorem IL.up {h : Heap} {F lc lc' : Nat} {l : AV} {zs : List Int} (hi : IL h F lc l zs) (hl : lc ≤ lc') : IL h F lc' l zs := by
  rcases hi with c | ⟨hp, c, h1, h2, h3⟩
  · exact .inl c
  · exact .inr ⟨hp, c, by omega, h2, h3⟩
theorem IL.set {h : Heap} {F lc c : Nat} {b : AB} {l : AV} {zs : List Int} (hi : IL h F lc l zs) (hl : lc ≤ c) : IL (hset h (ky F c) b) F lc l zs := by
  rcases hi with c' | ⟨hp, c', h1, h2, h3⟩
  · exact .inl c'
  · refine .inr ⟨hp, c', h1, h2, ?_⟩
    rw [hget_hset, if_neg (by rw [ky_inj]; omega)]; exact h3
theorem IL.new {h : Heap} {F lc c : Nat} {zs : List Int} (hl : c < lc) (hp : 0 < zs.length) : IL (hset h (ky F c) (mkRow (ints zs) 1)) F lc (.slice (ky F c) 0 0 zs.length none) zs :=
  .inr ⟨hp, c, hl, rfl, by rw [hget_hset, if_pos rfl]⟩
theorem same_kill {h0 h : Heap} {F lc : Nat} {l : AV} {zs : List Int} (hw : Wf ⟨h0, F⟩) (hs : SameH h0 h) (hi : IL h F lc l zs) : SameH h0 (kill h l) := by
  rcases hi with ⟨rfl, _⟩ | ⟨_, c, _, rfl, _⟩
  · exact hs
  · exact SameH.hset hw hs (ky_le F c)
theorem app_ints {t e t2 e2 : TypeId} {by' key F lc c f : Nat} {h : Heap} {l : AV} {zs : List Int} {x : Int}
    (hu : P.underlying t = some (.slice e)) (h2 : P.underlying t2 = some (.slice e2)) (hs : sizeT P e = some 1) (hb : bytesT P e = some by') (hz : zeroOk P e 1 by' = true) (hby : by' ≤ 1000)
    (hi : IL h F lc l zs) (hc : lc ≤ c) (hn : zs.length ≤ 1000) {cap : Option Nat} (htg : tagA P e = 0 := by kernel_rfl) :
    appendA P t t2 key ⟨hset h (ky F c) (mkRow [.int .i64 x] 1), f⟩ l (.slice (ky F c) 0 0 1 cap) = some (.slice key 0 0 (zs ++ [x]).length none, ⟨hset (kill (hset h (ky F c) (mkRow [.int .i64 x] 1)) l) key (mkRow (ints (zs ++ [x])) 1), f⟩) := by
  have hsrc : srcCells (hset h (ky F c) (mkRow [.int .i64 x] 1)) 1 (.slice (ky F c) 0 0 1 cap) = some (1, [.int .i64 x]) := by
    simp only [srcCells, readCells_eq, hget_hset, if_true, rdAB_row]; rfl
  rcases hi.set (b := mkRow [.int .i64 x] 1) hc with ⟨rfl, rfl⟩ | ⟨hp, c', h3, rfl, h4⟩
  · rw [app_nil (s := ⟨hset h (ky F c) (mkRow [.int .i64 x] 1), f⟩) (key := key) hu h2 hs hb hz hsrc (by omega) (by omega) hby htg, St.upd_eq]; rfl
  · rw [app_open (s := ⟨hset h (ky F c) (mkRow [.int .i64 x] 1), f⟩) (key := key) hu h2 hs hb hz hsrc (by omega) (by omega) h4 (by rw [ints_len, Nat.mul_one]) rfl (by omega) hby, List.length_append]
    simp only [ints, List.map_append, List.map_cons, List.map_nil, List.length_cons, List.length_nil, kill]
end Go.Ai

/-! Small rules. -/
namespace Go.Ai
open Go
theorem out_int {k : IntKind} {a b : Int} {s : St} (h : a = b) : Out.val (.int k a) s = Out.val (.int k b) s := by rw [h]
def lenOk (s : List UInt8) : Prop := s.length ≤ maxLen
def okN (n : Int) : Prop := 1 ≤ n ∧ n ≤ 1000000
theorem okN_lt {n : Int} (h : okN n) : decide (n < 1) = false := decide_eq_false (by unfold okN at h; omega)
theorem okN_rem {P : Program} {t : TypeId} {a n : Int} (h : okN n) : intOp P .rem t .u64 .u64 a (wrapL .u64 n) = some (.int .u64 (remU a (wrapL .u64 n))) := intOp_rem (by unfold okN at h; rw [wrapU_in h.1 h.2]; omega)
theorem text_at' {h h1 : Heap} {F i : Nat} {a : AV} {L : List (List AV)} (hw : Wf ⟨h, F⟩) (hl : LstP h ksT a L) (hs : SameH h h1) (hi : i < L.length) : ∃ b o eo cap s, a = .slice b o eo L.length cap ∧ b < ky F 0 ∧ L[i] = [.str s] ∧ lenOk s ∧ rdAB (hget h1 b) (o + i * 1) 1 = some [.str s] := by
  obtain ⟨b, o, eo, cap, e, h0, hp⟩ := hl.at hi
  obtain ⟨s, el⟩ := cks_T (hl.ok hi)
  have hk := hl.ok hi
  rw [el] at h0 hp hk
  obtain ⟨a', r, e', ha, _⟩ := hk
  cases e'
  exact ⟨b, o, eo, cap, s, e, rd_low hw h0, el, ha, hs.rd h0⟩
theorem out_t {p : Prop} {s : St} (hp : p) : Out.val (.bool true) s = Out.val (.bool (dec p)) s := by rw [dec_t hp]
theorem out_f {p : Prop} {s : St} (hp : ¬ p) : Out.val (.bool false) s = Out.val (.bool (dec p)) s := by rw [dec_f hp]
theorem out_b {p : Prop} {b : Bool} {s : St} (hp : b = true ↔ p) : Out.val (.bool b) s = Out.val (.bool (dec p)) s := by rw [bool_dec hp]
theorem rCv_int {P : Program} {h : Heap} {src dst : TypeId} {d : TypeDesc} {k k' : IntKind} {n : Int} (hd : P.underlying dst = some (.int k)) (hs : P.underlying src = some d) : rCv P h src dst (some (.int k' n)) = some (.int k (wrapL k n)) := by
  rw [wrapL, lock_eq]
  simp only [rCv, convA, hd, hs]
/-- the name of a callee's first block; the kernel doesn't look into it -/
noncomputable def nk (F : Nat) : Nat := Classical.choose (⟨ky F 0, rfl⟩ : ∃ y, y = ky F 0)
theorem nk_eq (F : Nat) : nk F = ky F 0 := Classical.choose_spec (⟨ky F 0, rfl⟩ : ∃ y, y = ky F 0)
theorem nk_low (F : Nat) : ky F 0 ≤ nk (F + 1) := by rw [nk_eq]; unfold ky; omega
theorem nk_old {F i : Nat} (h : i < ky F 0) : (i = nk (F + 1)) = False := eq_false (by have := nk_low F; omega)
theorem nk_ky {F c : Nat} (h : c < 1267650600228229401496703205376) : (ky F c = nk (F + 1)) = False := eq_false (by rw [nk_eq]; unfold ky; omega)
theorem natOf_c (k : IntKind) (i : Nat) : natOf (.int k (i : Int)) = some i := rfl
theorem lcn1 {lc N k : Nat} (h : N ≤ lc) (hk : k < N) : (k = lc) = False := by apply propext; constructor; omega; exact False.elim
theorem lcn2 {lc N k : Nat} (h : N ≤ lc) (hk : k < N) : (lc = k) = False := by apply propext; constructor; omega; exact False.elim
end Go.Ai

/-! Calls of which something is said; regions that draw their order, with such calls. -/
namespace Go.Ai
open Go
variable {P : Program} {G : Glob} {K : CallF} {m : Nat} {Q : Ex → Fr → St → Prop}
/-- a table whose outcomes are known by what is said of them -/
noncomputable def KUf (P : Program) (G : Glob) (S : FuncId → List AV → St → Out → Prop) : FuncId → List AV → St → Outs := fun f args s =>
  open Classical in if h : ∃ outs, Snd P G f args s outs ∧ ∀ o ∈ outs, S f args s o then some h.choose else none
noncomputable def KU (P : Program) (G : Glob) (S : FuncId → List AV → St → Out → Prop) : CallF := ⟨KUf P G S, fun _ _ _ => none⟩
theorem ku_fn {S : FuncId → List AV → St → Out → Prop} (f : FuncId) (args : List AV) (s : St) : CallF.fn (KU P G S) f args s = KUf P G S f args s := rfl
theorem ku_ok {S : FuncId → List AV → St → Out → Prop} : KOK P G (KU P G S) := KOK.table fun f args s outs h => by
  unfold KUf at h
  split at h
  · rename_i he
    cases h
    exact he.choose_spec.1
  · cases h
theorem ku_hit {S : FuncId → List AV → St → Out → Prop} {f : FuncId} {args : List AV} {s : St} (h : SndQ P G f args s (S f args s)) : ∃ outs, KUf P G S f args s = some outs ∧ ∀ o ∈ outs, S f args s o := by
  have he : ∃ outs, Snd P G f args s outs ∧ ∀ o ∈ outs, S f args s o := h
  exact ⟨he.choose, by unfold KUf; rw [dif_pos he], he.choose_spec.2⟩
/-- the outcomes of an operation that calls -/
noncomputable def callOuts (P : Program) (K : CallF) (fr : Fr) (i : Nat) (s : St) : Op → Outs
  | .call c => match c.callee with
    | .builtin _ => none
    | _ => callTo K s (target P fr c)
  | _ => none
/-- behind a call -/
def backQ (fr : Fr) (dst : Option Tmp) (k : Fr → St → Prop) : Out → Prop
  | .val v s' => ∃ fr', fr.put dst v = some fr' ∧ k fr' s'
  | .pan _ _ => False
theorem callOuts_one {dst : Option Tmp} {op : Op} {i : Nat} {fr : Fr} {s : St} {outs : List Out} (h : callOuts P K fr i s op = some outs) (k : Fr → St → Res) : oneOp P G K dst op i fr s k = outsTo (fun v s => putK s k (fr.put dst v)) fr outs := by
  unfold callOuts at h
  split at h
  · rename_i c
    split at h
    · cases h
    · rename_i hcal
      have hc : clsOf (.call c) = .heavy := by
        cases hcc : c.callee with
        | builtin b => exact absurd hcc (hcal b)
        | _ => simp [clsOf, clsCall, hcc]
      have hh : heavyCall P K fr (keyOf fr i) s c = some outs := by
        unfold heavyCall
        split
        · rename_i b hb; exact absurd hb (hcal b)
        · exact h
      unfold oneOp
      rw [hc]
      simp only [oneHeavy, oneCall]
      split
      · rename_i hb; exact absurd hb (hcal _)
      · rw [hh]; rfl
  · cases h
theorem wr_outs {f : AV → St → Res} {fr : Fr} {dst : Option Tmp} {k : Fr → St → Prop} (hf : ∀ v s fr', fr.put dst v = some fr' → k fr' s → WR (f v s) Q) : ∀ {outs : List Out}, (∀ o ∈ outs, backQ fr dst k o) → WR (outsTo f fr outs) Q
  | [], _ => ⟨[], rfl, fun _ _ _ h => by cases h⟩
  | .pan v s :: rest, h => (h _ List.mem_cons_self).elim
  | .val v s :: rest, h => by
    obtain ⟨fr', hp, hk⟩ := h _ List.mem_cons_self
    obtain ⟨l1, e1, h1⟩ := hf v s fr' hp hk
    simp only [outsTo, e1]
    cases rest with
    | nil => exact ⟨l1, rfl, h1⟩
    | cons y ys =>
      obtain ⟨l2, e2, h2⟩ := wr_outs hf (outs := y :: ys) fun o ho => h o (List.mem_cons_of_mem _ ho)
      simp only [e2]
      exact ⟨_, rfl, fun e fr s hm => by
        rcases List.mem_append.1 hm with q | q
        · exact h1 e fr s q
        · exact h2 e fr s q⟩
theorem wr_douts {f : AV → St → Res} {fr : Fr} {dst : Option Tmp} {k : Fr → St → Prop} {bh : Bool} (hf : ∀ v s fr', fr.put dst v = some fr' → k fr' s → WR (f v s) Q) : ∀ {outs : List Out}, (∀ o ∈ outs, backQ fr dst k o) → WR (drawOuts f fr bh outs) Q
  | [], _ => ⟨[], rfl, fun _ _ _ h => by cases h⟩
  | .pan v s :: rest, h => (h _ List.mem_cons_self).elim
  | .val v s :: rest, h => by
    obtain ⟨fr', hp, hk⟩ := h _ List.mem_cons_self
    obtain ⟨l1, e1, h1⟩ := hf v s fr' hp hk
    simp only [drawOuts, e1]
    cases rest with
    | nil => exact ⟨l1, rfl, h1⟩
    | cons y ys =>
      obtain ⟨l2, e2, h2⟩ := wr_douts (bh := bh) hf (outs := y :: ys) fun o ho => h o (List.mem_cons_of_mem _ ho)
      simp only [e2]
      exact ⟨_, rfl, fun e fr s hm => by
        rcases List.mem_append.1 hm with q | q
        · exact h1 e fr s q
        · exact h2 e fr s q⟩
section
variable {S : FuncId → List AV → St → Out → Prop} {l : List Oper} {ops : Array Oper} {i : Nat} {fr fr' : Fr} {s s' : St} {o : Oper} {rest : List Oper} {j : Nat} {js : List Nat} {f : FuncId} {args : List AV}
/-- A CALL OF WHICH SOMETHING IS SAID. -/
theorem r_callQ (hw : wantedA fr ops o = true) (hc : callOuts P (KU P G S) fr i s o.op = KUf P G S f args s) (hs : SndQ P G f args s (S f args s))
    (hk : ∀ x, S f args s x → backQ fr o.dst (fun fr' s' => WR (textOps P G (KU P G S) ops rest (i + 1) fr' s') Q) x) : WR (textOps P G (KU P G S) ops (o :: rest) i fr s) Q := by
  obtain ⟨outs, e, hq⟩ := ku_hit hs
  rw [e] at hc
  have : WR (oneOp P G (KU P G S) o.dst o.op i fr s (textOps P G (KU P G S) ops rest (i + 1))) Q := by
    rw [callOuts_one hc]
    refine wr_outs (dst := o.dst) (k := fun fr' s' => WR (textOps P G (KU P G S) ops rest (i + 1) fr' s') Q) ?_ fun x hx => hk x (hq x hx)
    intro v s fr' hp hk
    rw [hp]; exact hk
  obtain ⟨dst, op, ty, pos, after, g⟩ := o
  rw [textOps, hw]
  exact this
/-- a region that draws its order, with calls of which something is said -/
def DQ (P : Program) (G : Glob) (K : CallF) (l : List Oper) (Q : Ex → Fr → St → Prop) : List Nat → Fr → St → Prop
  | [], fr, s => Q .normal (fr.bump l.length) s
  | j :: js, fr, s => ∃ o, l[j]? = some o ∧ ((wantedA fr l.toArray o = false ∧ ∃ fr', fr.put o.dst .undef = some fr' ∧ DQ P G K l Q js fr' s) ∨
      (wantedA fr l.toArray o = true ∧ ∃ fr' s', stepOp P G K o.dst o.op j fr s = some (fr', s') ∧ SameH s.h s'.h ∧ (∀ v, clsOf o.op = .read → readOp P G fr s.h o.op = some v → avEq v v = true) ∧ DQ P G K l Q js fr' s') ∨
      (wantedA fr l.toArray o = true ∧ ∃ outs, callOuts P K fr j s o.op = some outs ∧ ∀ x ∈ outs, backQ fr o.dst (fun fr' s' => SameH s.h s'.h ∧ DQ P G K l Q js fr' s') x))
theorem callOuts_heavy {op : Op} {outs : List Out} (h : callOuts P K fr i s op = some outs) : clsOf op = .heavy ∧ heavy P K fr (keyOf fr i) s op = some outs := by
  unfold callOuts at h
  split at h
  · rename_i c
    split at h
    · cases h
    · rename_i hcal
      have hh : heavyCall P K fr (keyOf fr i) s c = some outs := by
        unfold heavyCall
        split
        · rename_i b hb; exact absurd hb (hcal b)
        · exact h
      refine ⟨?_, hh⟩
      cases hcc : c.callee with
      | builtin b => exact absurd hcc (hcal b)
      | _ => simp [clsOf, clsCall, hcc]
  · cases h
theorem dq_sound {l : List Oper} : ∀ {order : List DE} {js : List Nat} {done : Nat} {fr : Fr} {s : St} {rs : List (Nat × Nat × Op × AV)}, order.map (·.1) = js → (∀ e ∈ order, l[e.1]? = some e.2.2.2) → drawC order = true → SeenOk P G fr s rs order → DQ P G K l Q js fr s → WR (drawOps P G K l.toArray l.length order done fr s ⟨[], rs⟩) Q
  | [], js, done, fr, s, rs, hj, _, _, _, hw => by
    subst hj
    simp only [drawOps, addAll, St.withH_eq, wr_one]
    exact hw
  | (i, b, c, o) :: rest, js, done, fr, s, rs, hj, hl, hc, hso, hw => by
    subst hj
    simp only [List.map_cons, DQ] at hw
    obtain ⟨o', ho, hw⟩ := hw
    have := hl _ List.mem_cons_self
    simp only at this
    rw [this] at ho
    cases ho
    have hl' : ∀ e ∈ rest, l[e.1]? = some e.2.2.2 := fun e he => hl e (List.mem_cons_of_mem _ he)
    have hc' : drawC rest = true := by
      simp only [drawC] at hc
      split at hc
      · cases hc
      · exact hc
      · split at hc
        · exact hc
        · cases hc
      · split at hc
        · exact hc
        · cases hc
    rcases hw with ⟨hg, fr', hp, hw⟩ | ⟨hg, fr', s', hst, hs, hav, hw⟩ | ⟨hg, outs, hco, hbk⟩
    · simp only [drawOps, hg, hp, putK, natC_eq]
      exact dq_sound rfl hl' hc' (SeenOk.put hso hp (SameH.refl _)) hw
    · simp only [drawOps, hg, dOne]
      unfold stepOp at hst
      cases hcl : clsOf o.op with
      | pure =>
        rw [hcl] at hst
        obtain ⟨u, e, hp, rfl⟩ := stV_some hst
        simp only [e, putV, hp, putK, natC_eq]
        exact dq_sound rfl hl' hc' (SeenOk.put hso hp (SameH.refl _)) hw
      | read =>
        rw [hcl] at hst
        obtain ⟨u, e, hp, rfl⟩ := stV_some hst
        have e1 : addMade b s'.h [] = s'.h := rfl
        simp only [e1, e, dRead, hp, putK, natC_eq]
        simp only [drawC, hcl] at hc
        split at hc
        · rename_i h1 h2
          refine dq_sound rfl hl' hc' ?_ hw
          have hso' : SeenOk P G fr s' ((i, b, o.op, u) :: rs) ((i, b, c, o) :: rest) := by
            intro x hx
            rcases List.mem_cons.1 hx with rfl | hx
            · exact ⟨e, h1, h2, hav u hcl e⟩
            · exact hso x hx
          exact SeenOk.put hso' hp (SameH.refl _)
        · cases hc
      | alloc =>
        simp only [drawC, hcl] at hc
        cases hc
      | heavy =>
        rw [hcl] at hst
        obtain ⟨u, e, hp⟩ := stHeavy_some hst
        have e3 : dHeavy P G K o b i done fr (s.withH (addMade b s.h [])) ⟨[], rs⟩ (fun fr s z => natC (Nat.lor done (2 ^ i)) fun d => drawOps P G K l.toArray l.length rest d fr s z) = dHeavy2 P G o b done fr s.h ⟨[], rs⟩ (fun fr s z => natC (Nat.lor done (2 ^ i)) fun d => drawOps P G K l.toArray l.length rest d fr s z) (heavy P K fr (keyOf fr i) s o.op) := by
          simp only [drawC, hcl] at hc
          unfold dHeavy
          split
          · rename_i h0; rw [h0] at hc; simp [notRange] at hc
          · rfl
        rw [e3, e]
        have hso2 : SeenOk P G fr s' rs ((i, b, c, o) :: rest) := fun x hx => by
          obtain ⟨h1, h2, h3, h4⟩ := hso x hx
          exact ⟨readOp_more hs h2 h1, h2, h3, h4⟩
        have e4 : readsOk P G fr s'.h [] (readsLeft b rs) = true := readsOk_of fun x hx => by
          obtain ⟨r, hr⟩ := readsLeft_sub hx
          obtain ⟨h1, _, _, h4⟩ := hso2 _ hr
          exact ⟨h1, h4⟩
        have e5 : asideOk s.h s'.h [] = true := rfl
        simp only [dHeavy2, drawOuts, e4, e5, hp, putK, natC_eq]
        have := dq_sound (done := Nat.lor done (2 ^ i)) (order := rest) rfl hl' hc' (SeenOk.put hso2 hp (SameH.refl _)) hw
        cases hx : drawOps P G K l.toArray l.length rest (Nat.lor done (2 ^ i)) fr' s' ⟨[], rs⟩ with
        | none => rw [hx] at this; exact this
        | some x => rw [hx] at this; exact this
    · simp only [drawOps, hg, dOne]
      obtain ⟨hcl, hh⟩ := callOuts_heavy hco
      simp only [hcl]
      have e3 : dHeavy P G K o b i done fr (s.withH (addMade b s.h [])) ⟨[], rs⟩ (fun fr s z => natC (Nat.lor done (2 ^ i)) fun d => drawOps P G K l.toArray l.length rest d fr s z) = dHeavy2 P G o b done fr s.h ⟨[], rs⟩ (fun fr s z => natC (Nat.lor done (2 ^ i)) fun d => drawOps P G K l.toArray l.length rest d fr s z) (heavy P K fr (keyOf fr i) s o.op) := by
        simp only [drawC, hcl] at hc
        unfold dHeavy
        split
        · rename_i h0; rw [h0] at hc; simp [notRange] at hc
        · rfl
      rw [e3, hh]
      simp only [dHeavy2]
      refine wr_douts (dst := o.dst) (k := fun fr' s' => SameH s.h s'.h ∧ DQ P G K l Q (rest.map (·.1)) fr' s') ?_ hbk
      rintro v s' fr' hp ⟨hs, hw⟩
      have hso2 : SeenOk P G fr s' rs ((i, b, c, o) :: rest) := fun x hx => by
        obtain ⟨h1, h2, h3, h4⟩ := hso x hx
        exact ⟨readOp_more hs h2 h1, h2, h3, h4⟩
      have e4 : readsOk P G fr s'.h [] (readsLeft b rs) = true := readsOk_of fun x hx => by
        obtain ⟨r, hr⟩ := readsLeft_sub hx
        obtain ⟨h1, _, _, h4⟩ := hso2 _ hr
        exact ⟨h1, h4⟩
      have e5 : asideOk s.h s'.h [] = true := rfl
      simp only [e4, e5, hp, putK, natC_eq]
      exact dq_sound (done := Nat.lor done (2 ^ i)) (order := rest) rfl hl' hc' (SeenOk.put hso2 hp (SameH.refl _)) hw
theorem q_end {F lc lc' n : Nat} {t : T AV} {df : List (AV × List AV)} {rc : Rc} (hl : lc + l.length = lc') (h : Q .normal ⟨F, lc', n, t, df, rc⟩ s) : DQ P G K l Q [] ⟨F, lc, n, t, df, rc⟩ s := by
  show Q .normal (Fr.bump ⟨F, lc, n, t, df, rc⟩ l.length) s
  rw [bump_mk, hl]; exact h
theorem q_any (ho : l[j]? = some o) (h : stepAny P G K l.toArray o j fr s = some (fr', s')) (hv : readSelf l.toArray fr fr' o = true) (hs : SameH s.h s'.h) (hk : DQ P G K l Q js fr' s') : DQ P G K l Q (j :: js) fr s := by
  unfold stepAny at h
  cases hw : wantedA fr l.toArray o with
  | true =>
    rw [hw] at h
    simp only at h
    refine ⟨o, ho, .inr (.inl ⟨hw, fr', s', h, hs, fun v h1 h2 => ?_, hk⟩)⟩
    unfold stepOp at h
    rw [h1] at h
    obtain ⟨u, e, hp, _⟩ := stV_some h
    rw [h2] at e
    cases e
    unfold readSelf at hv
    rw [hw, h1] at hv
    cases hd : o.dst with
    | none => rw [hd] at hv; cases hv
    | some d =>
      rw [hd] at hv
      simp only at hv
      rw [hd] at hp
      have := (put_some' hp).2.2 d
      rw [if_pos rfl] at this
      rw [this] at hv
      exact hv
  | false =>
    rw [hw] at h
    simp only at h
    split at h
    · rename_i fr1 hp
      cases h
      exact ⟨o, ho, .inl ⟨hw, fr', hp, hk⟩⟩
    · cases h
theorem q_call (ho : l[j]? = some o) (hw : wantedA fr l.toArray o = true) (hc : callOuts P (KU P G S) fr j s o.op = KUf P G S f args s) (hs : SndQ P G f args s (S f args s))
    (hk : ∀ x, S f args s x → backQ fr o.dst (fun fr' s' => SameH s.h s'.h ∧ DQ P G (KU P G S) l Q js fr' s') x) : DQ P G (KU P G S) l Q (j :: js) fr s := by
  obtain ⟨outs, e, hq⟩ := ku_hit hs
  rw [e] at hc
  exact ⟨o, ho, .inr (.inr ⟨hw, outs, hc, fun x hx => hk x (hq x hx)⟩)⟩
theorem r_drawQ {id : Nat} {F lc n : Nat} {t : T AV} {df : List (AV × List AV)} {rc : Rc} (hj : (theOrder l).map (·.1) = js) (hok : (drawOk l (theOrder l) && drawC (theOrder l)) = true) (hk : lc + l.length ≤ 1267650600228229401496703205375)
    (h : DQ P G K l Q js ⟨F, lc, n, t, df, rc⟩ s) : WR (code P G K m (.region id l.toArray true) ⟨F, lc, n, t, df, rc⟩ s) Q := by
  rw [code]
  unfold region
  simp only [keysOk_mk, hk, decide_true]
  rw [Bool.and_eq_true] at hok
  unfold drawn
  rw [hok.1]
  exact dq_sound hj theOrder_at hok.2 (fun _ h => by cases h) h
end
end Go.Ai

/-! All that stand behind one: the search and the marks tell the same. -/
namespace Go.Ai
open Go
/-- what stands behind: by edges that lead down -/
inductive Reach (M : List (List Int)) (s : Nat) : Nat → Prop where
  | base : Reach M s s
  | step {n k : Nat} {l : List Int} : Reach M s n → M[n]? = some l → (k : Int) ∈ l → k < n → Reach M s k
theorem Reach.le {M : List (List Int)} {s k : Nat} (h : Reach M s k) : k ≤ s := by
  induction h with
  | base => exact Nat.le_refl _
  | step _ _ _ hk ih => omega
noncomputable def behind (M : List (List Int)) (s : Nat) : List Int := ((List.range s).filter fun k => dec (Reach M s k)).map Int.ofNat
/-! ### the search -/
noncomputable def bstep (n : Int) (out : List Int) (c : Int) : List Int := open Classical in if c < 0 ∨ n ≤ c ∨ c ∈ out then out else out ++ [c]
structure BI (M : List (List Int)) (s p : Nat) (out : List Int) : Prop where
  nodup : out.Nodup
  range : ∀ x ∈ out, 0 ≤ x ∧ x < s
  reach : ∀ x ∈ out, Reach M s x.toNat
  closed : ∀ k < p, ∀ x, ((s : Int) :: out)[k]? = some x → ∀ l, M[x.toNat]? = some l → ∀ c ∈ l, 0 ≤ c → c < x → c ∈ out
theorem BI.init (M : List (List Int)) (s : Nat) : BI M s 0 [] := ⟨List.nodup_nil, by simp, by simp, by intro k hk; omega⟩
theorem bstep_ext (n : Int) (out : List Int) (c : Int) : ∃ e, bstep n out c = out ++ e := by
  unfold bstep
  split
  · exact ⟨[], by simp⟩
  · exact ⟨[c], rfl⟩
theorem bfold_ext (n : Int) : ∀ (l out : List Int), ∃ e, l.foldl (bstep n) out = out ++ e
  | [], out => ⟨[], by simp⟩
  | c :: l, out => by
    obtain ⟨e1, h1⟩ := bstep_ext n out c
    obtain ⟨e2, h2⟩ := bfold_ext n l (bstep n out c)
    exact ⟨e1 ++ e2, by rw [List.foldl_cons, h2, h1, List.append_assoc]⟩
theorem bfold_has (n : Int) : ∀ (l out : List Int), ∀ c ∈ l, 0 ≤ c → c < n → c ∈ l.foldl (bstep n) out
  | [], _, c, h, _, _ => by cases h
  | d :: l, out, c, h, h0, hn => by
    rw [List.foldl_cons]
    rcases List.mem_cons.1 h with e | h
    · subst e
      obtain ⟨e, he⟩ := bfold_ext n l (bstep n out c)
      rw [he]
      refine List.mem_append_left _ ?_
      unfold bstep
      split
      · rename_i hc; rcases hc with h | h | h
        · omega
        · omega
        · exact h
      · simp
    · exact bfold_has n l _ c h h0 hn
theorem bfold_keep {M : List (List Int)} {s n : Nat} (hn : n ≤ s) (hr : Reach M s n) {L : List Int} (hL : M[n]? = some L) : ∀ (l out : List Int), (∀ c ∈ l, c ∈ L) → out.Nodup → (∀ x ∈ out, 0 ≤ x ∧ x < s) → (∀ x ∈ out, Reach M s x.toNat) →
    (l.foldl (bstep n) out).Nodup ∧ (∀ x ∈ l.foldl (bstep n) out, 0 ≤ x ∧ x < s) ∧ (∀ x ∈ l.foldl (bstep n) out, Reach M s x.toNat)
  | [], out, _, h1, h2, h3 => ⟨h1, h2, h3⟩
  | c :: l, out, hl, h1, h2, h3 => by
    rw [List.foldl_cons]
    refine bfold_keep hn hr hL l _ (fun d hd => hl d (List.mem_cons_of_mem _ hd)) ?_ ?_ ?_
    all_goals unfold bstep
    · split
      · exact h1
      · rename_i hc
        have hc1 : ¬ c ∈ out := fun h => hc (.inr (.inr h))
        rw [List.nodup_append]
        exact ⟨h1, by simp, fun a ha b hb => by rw [List.mem_singleton] at hb; subst hb; intro e; subst e; exact hc1 ha⟩
    · split
      · exact h2
      · rename_i hc
        intro x hx
        rcases List.mem_append.1 hx with hx | hx
        · exact h2 x hx
        · rw [List.mem_singleton] at hx
          subst hx
          have a1 : ¬ x < 0 := fun h => hc (.inl h)
          have a2 : ¬ (n : Int) ≤ x := fun h => hc (.inr (.inl h))
          omega
    · split
      · exact h3
      · rename_i hc
        intro x hx
        rcases List.mem_append.1 hx with hx | hx
        · exact h3 x hx
        · rw [List.mem_singleton] at hx
          subst hx
          have a1 : ¬ x < 0 := fun h => hc (.inl h)
          have a2 : ¬ (n : Int) ≤ x := fun h => hc (.inr (.inl h))
          exact Reach.step hr hL (by rw [show ((x.toNat : Nat) : Int) = x by omega]; exact hl x List.mem_cons_self) (by omega)
/-- the element that is looked at -/
theorem BI.at {M : List (List Int)} {s p : Nat} {out : List Int} (h : BI M s p out) (hp : p ≤ out.length) : ∃ n : Nat, ((s : Int) :: out)[p]? = some (n : Int) ∧ n ≤ s ∧ Reach M s n := by
  cases p with
  | zero => exact ⟨s, rfl, Nat.le_refl _, .base⟩
  | succ p =>
    have hlt : p < out.length := by omega
    have hm : out[p] ∈ out := List.getElem_mem hlt
    have h1 := h.range _ hm
    refine ⟨(out[p]).toNat, ?_, by omega, h.reach _ hm⟩
    rw [List.getElem?_cons_succ, List.getElem?_eq_getElem hlt]
    congr 1
    omega
theorem BI.step {M : List (List Int)} {s p n : Nat} {out : List Int} (h : BI M s p out) (hp : p ≤ out.length) (hn : ((s : Int) :: out)[p]? = some (n : Int)) {L : List Int} (hL : M[n]? = some L) : BI M s (p + 1) (L.foldl (bstep n) out) := by
  obtain ⟨n', h1, h2, h3⟩ := h.at hp
  rw [hn] at h1
  have e : n = n' := by have := Option.some.inj h1; omega
  subst e
  obtain ⟨k1, k2, k3⟩ := bfold_keep h2 h3 hL L out (fun _ h => h) h.nodup h.range h.reach
  obtain ⟨ex, hex⟩ := bfold_ext n L out
  refine ⟨k1, k2, k3, ?_⟩
  intro k hk x hx l hl c hc h0 hcx
  have hk' : k < ((s : Int) :: out).length := by simp; omega
  have hx' : ((s : Int) :: out)[k]? = some x := by
    rw [hex, ← List.cons_append, List.getElem?_append_left hk'] at hx
    exact hx
  by_cases hkp : k < p
  · rw [hex]
    exact List.mem_append_left _ (h.closed k hkp x hx' l hl c hc h0 hcx)
  · have : k = p := by omega
    subst this
    rw [hn] at hx'
    cases hx'
    simp only [Int.toNat_natCast] at hl
    rw [hL] at hl
    cases hl
    exact bfold_has n L out c hc h0 hcx
theorem nodup_len : ∀ (s : Nat) (l : List Nat), l.Nodup → (∀ x ∈ l, x < s) → l.length ≤ s
  | 0, l, _, h => by
    cases l with
    | nil => exact Nat.le_refl _
    | cons a l => have := h a List.mem_cons_self; omega
  | s + 1, l, hn, h => by
    have := nodup_len s (l.erase s) (hn.erase s) fun x hx => by
      have h1 := (hn.mem_erase_iff).1 hx
      have := h x h1.2
      have := h1.1
      omega
    have h2 := List.length_erase (a := s) (l := l)
    split at h2 <;> omega
theorem short_of {s : Nat} {out : List Int} (hn : out.Nodup) (hr : ∀ x ∈ out, 0 ≤ x ∧ x < s) : out.length ≤ s := by
  have hsub : (out.map Int.toNat).Nodup := by
    rw [List.nodup_iff_pairwise_ne, List.pairwise_map]
    refine List.Pairwise.imp_of_mem ?_ (List.nodup_iff_pairwise_ne.1 hn)
    intro a b ha hb hne e
    have := hr a ha
    have := hr b hb
    omega
  have := nodup_len s _ hsub fun x hx => by
    obtain ⟨y, hy, rfl⟩ := List.mem_map.1 hx
    have := hr y hy
    omega
  simpa using this
theorem BI.short {M : List (List Int)} {s p : Nat} {out : List Int} (h : BI M s p out) : out.length ≤ s := short_of h.nodup h.range
theorem BI.part {M : List (List Int)} {s p n : Nat} {out : List Int} (h : BI M s p out) (hp : p ≤ out.length) (hn : ((s : Int) :: out)[p]? = some (n : Int)) {L : List Int} (hL : M[n]? = some L) (j : Nat) : ((L.take j).foldl (bstep n) out).length ≤ s := by
  obtain ⟨n', h1, h2, h3⟩ := h.at hp
  rw [hn] at h1
  have e : n = n' := by have := Option.some.inj h1; omega
  subst e
  obtain ⟨k1, k2, _⟩ := bfold_keep h2 h3 hL (L.take j) out (fun _ h => List.mem_of_mem_take h) h.nodup h.range h.reach
  exact short_of k1 k2
theorem BI.all {M : List (List Int)} {s p : Nat} {out : List Int} (h : BI M s p out) (hp : p = out.length + 1) {k : Nat} (hk : Reach M s k) : k = s ∨ (k : Int) ∈ out := by
  induction hk with
  | base => exact .inl rfl
  | step hr hM hc hlt ih =>
    rename_i n k l
    right
    have hmem : (n : Int) ∈ ((s : Int) :: out) := by
      rcases ih with e | e
      · rw [e]; exact List.mem_cons_self
      · exact List.mem_cons_of_mem _ e
    obtain ⟨i, hi⟩ := List.getElem?_of_mem hmem
    have hil := (List.getElem?_eq_some_iff.1 hi).1
    exact h.closed i (by simp at hil; omega) n hi l (by simpa using hM) k hc (by omega) (by omega)
theorem behind_sorted (M : List (List Int)) (s : Nat) : (behind M s).Pairwise (· < ·) := by
  unfold behind
  rw [List.pairwise_map]
  refine List.Pairwise.filter _ ?_
  refine List.Pairwise.imp ?_ List.pairwise_lt_range
  intro a b h
  exact Int.ofNat_lt.2 h
theorem mem_behind {M : List (List Int)} {s : Nat} {x : Int} : x ∈ behind M s ↔ ∃ k : Nat, x = k ∧ k < s ∧ Reach M s k := by
  unfold behind
  rw [List.mem_map]
  constructor
  · rintro ⟨k, hk, rfl⟩
    obtain ⟨h1, h2⟩ := List.mem_filter.1 hk
    exact ⟨k, rfl, List.mem_range.1 h1, dec_iff.1 h2⟩
  · rintro ⟨k, rfl, h1, h2⟩
    exact ⟨k, List.mem_filter.2 ⟨List.mem_range.2 h1, dec_iff.2 h2⟩, rfl⟩
theorem sorted_strict {l : List Int} (hn : l.Nodup) : (l.mergeSort fun x y => decide (x ≤ y)).Pairwise (· < ·) := by
  have h1 : (l.mergeSort fun x y => decide (x ≤ y)).Pairwise fun x y => decide (x ≤ y) = true :=
    List.pairwise_mergeSort (fun a b c => by simp only [decide_eq_true_eq]; omega) (fun a b => by simp only [Bool.or_eq_true, decide_eq_true_eq]; omega) l
  have h2 : (l.mergeSort fun x y => decide (x ≤ y)).Nodup := (List.mergeSort_perm l _).nodup_iff.2 hn
  have h3 := h1.and (List.nodup_iff_pairwise_ne.1 h2)
  exact h3.imp fun ⟨a, b⟩ => by simp only [decide_eq_true_eq] at a; omega
/-- THE SEARCH's END. -/
theorem BI.done {M : List (List Int)} {s p : Nat} {out : List Int} (h : BI M s p out) (hp : p = out.length + 1) : (out.mergeSort fun x y => decide (x ≤ y)) = behind M s := by
  refine strict_ext (sorted_strict h.nodup) (behind_sorted M s) fun x => ?_
  rw [(List.mergeSort_perm out _).mem_iff, mem_behind]
  constructor
  · intro hx
    have h1 := h.range x hx
    exact ⟨x.toNat, by omega, by omega, h.reach x hx⟩
  · rintro ⟨k, rfl, h1, h2⟩
    rcases h.all hp h2 with e | e
    · omega
    · exact e
/-! ### the marks -/
noncomputable def bmark (i : Nat) (b : List Bool) (c : Int) : List Bool := open Classical in if 0 ≤ c ∧ c < i then b.set c.toNat true else b
structure MI (M : List (List Int)) (s i : Nat) (b : List Bool) : Prop where
  len : b.length = M.length
  base : b[s]? = some true
  reach : ∀ k : Nat, b[k]? = some true → Reach M s k
  closed : ∀ k : Nat, i ≤ k → b[k]? = some true → ∀ l, M[k]? = some l → ∀ c : Nat, (c : Int) ∈ l → c < k → b[c]? = some true
theorem MI.init {M : List (List Int)} {s : Nat} (hs : s < M.length) : MI M s (s + 1) ((List.replicate M.length false).set s true) := by
  have key : ∀ k : Nat, ((List.replicate M.length false).set s true)[k]? = some true → k = s := by
    intro k hk
    rw [List.getElem?_set] at hk
    split at hk
    · rename_i e; exact e.symm
    · rw [List.getElem?_replicate] at hk
      split at hk <;> simp at hk
  refine ⟨by simp, ?_, ?_, ?_⟩
  · rw [List.getElem?_set_self (by simpa using hs)]
  · intro k hk; rw [key k hk]; exact .base
  · intro k hi hk; have := key k hk; omega
theorem mark_len (i : Nat) (b : List Bool) (c : Int) : (bmark i b c).length = b.length := by
  unfold bmark; split <;> simp
theorem marks_len (i : Nat) : ∀ (l : List Int) (b : List Bool), (l.foldl (bmark i) b).length = b.length
  | [], _ => rfl
  | c :: l, b => by rw [List.foldl_cons, marks_len i l, mark_len]
theorem mark_high {i k : Nat} (h : i ≤ k) (b : List Bool) (c : Int) : (bmark i b c)[k]? = b[k]? := by
  unfold bmark
  split
  · rw [List.getElem?_set_ne (by omega)]
  · rfl
theorem marks_high {i k : Nat} (h : i ≤ k) : ∀ (l : List Int) (b : List Bool), (l.foldl (bmark i) b)[k]? = b[k]?
  | [], _ => rfl
  | c :: l, b => by rw [List.foldl_cons, marks_high h l, mark_high h]
theorem mark_get {i : Nat} {b : List Bool} {c : Int} {k : Nat} (hi : i ≤ b.length) : (bmark i b c)[k]? = some true ↔ b[k]? = some true ∨ (c = k ∧ k < i) := by
  unfold bmark
  split
  · rename_i hc
    rw [List.getElem?_set]
    split
    · rename_i e
      rw [if_pos (by omega)]
      constructor
      · intro _; exact .inr ⟨by omega, by omega⟩
      · intro _; rfl
    · rename_i e
      constructor
      · intro h; exact .inl h
      · rintro (h | ⟨h1, h2⟩)
        · exact h
        · exfalso; apply e; omega
  · rename_i hc
    constructor
    · intro h; exact .inl h
    · rintro (h | ⟨h1, h2⟩)
      · exact h
      · exfalso; apply hc; omega
theorem marks_get {i : Nat} : ∀ {l : List Int} {b : List Bool} {k : Nat}, i ≤ b.length → ((l.foldl (bmark i) b)[k]? = some true ↔ b[k]? = some true ∨ ((k : Int) ∈ l ∧ k < i))
  | [], b, k, _ => by simp
  | c :: l, b, k, hi => by
    rw [List.foldl_cons, marks_get (by rw [mark_len]; exact hi), mark_get hi, List.mem_cons]
    constructor
    · rintro ((h | ⟨h1, h2⟩) | ⟨h1, h2⟩)
      · exact .inl h
      · exact .inr ⟨.inl h1.symm, h2⟩
      · exact .inr ⟨.inr h1, h2⟩
    · rintro (h | ⟨h1 | h1, h2⟩)
      · exact .inl (.inl h)
      · exact .inl (.inr ⟨h1.symm, h2⟩)
      · exact .inr ⟨h1, h2⟩
/-- one number's edges are marked, where it is marked itself -/
theorem MI.step {M : List (List Int)} {s i : Nat} {b : List Bool} (h : MI M s (i + 1) b) {L : List Int} (hL : M[i]? = some L) {v : Bool} (hv : b[i]? = some v) : MI M s i (if v = true then L.foldl (bmark i) b else b) := by
  have hi : i < M.length := (List.getElem?_eq_some_iff.1 hL).1
  cases v with
  | false =>
    simp only [Bool.false_eq_true, if_false]
    refine ⟨h.len, h.base, h.reach, fun k hk hb => ?_⟩
    by_cases e : k = i
    · subst e; rw [hv] at hb; cases hb
    · exact h.closed k (by omega) hb
  | true =>
    simp only [if_true]
    have hib : i ≤ b.length := by rw [h.len]; omega
    refine ⟨by rw [marks_len]; exact h.len, (marks_get hib).2 (.inl h.base), ?_, ?_⟩
    · intro k hk
      rcases (marks_get hib).1 hk with hk | ⟨h1, h2⟩
      · exact h.reach k hk
      · exact .step (h.reach i hv) hL h1 h2
    · intro k hk hb l hl c hc hck
      rw [marks_high hk] at hb
      rw [marks_get hib]
      by_cases e : k = i
      · subst e
        rw [hL] at hl
        cases hl
        exact .inr ⟨hc, hck⟩
      · exact .inl (h.closed k (by omega) hb l hl c hc hck)
theorem MI.done {M : List (List Int)} {s : Nat} {b : List Bool} (h : MI M s 0 b) (k : Nat) : b[k]? = some true ↔ Reach M s k := by
  constructor
  · exact h.reach k
  · intro hk
    induction hk with
    | base => exact h.base
    | step hr hM hc hlt ih => exact h.closed _ (Nat.zero_le _) ih _ hM _ hc hlt
/-- the marks, read upwards -/
noncomputable def readUp (b : List Bool) (i : Nat) : List Int := ((List.range i).filter fun k => b[k]? == some true).map Int.ofNat
theorem readUp_succ (b : List Bool) (i : Nat) : readUp b (i + 1) = if b[i]? = some true then readUp b i ++ [(i : Int)] else readUp b i := by
  unfold readUp
  rw [List.range_succ, List.filter_append, List.map_append]
  split
  · rename_i h; simp [h]
  · rename_i h
    have : (b[i]? == some true) = false := by simpa using h
    simp [this]
theorem MI.read {M : List (List Int)} {s : Nat} {b : List Bool} (h : MI M s 0 b) : readUp b s = behind M s := by
  unfold readUp behind
  congr 1
  refine List.filter_congr fun k _ => ?_
  rw [Bool.eq_iff_iff, dec_iff, ← h.done k]
  simp
end Go.Ai

/-! Rows of truth values; lists of lists. -/
namespace Go.Ai
open Go
variable {P : Program} {G : Glob}
def bools (bs : List Bool) : List AV := bs.map AV.bool
noncomputable def bRow (bs : List Bool) : AB := mkRow (bools bs) 1
theorem bools_get {bs : List Bool} {j : Nat} {v : Bool} (h : bs[j]? = some v) : (bools bs)[j]? = some (.bool v) := by simp [bools, h]
theorem rd_b {bs : List Bool} {j : Nat} {v : Bool} (h : bs[j]? = some v) : rdAB (some (bRow bs)) (j * 1) 1 = some [.bool v] := by
  have hj := (List.getElem?_eq_some_iff.1 (bools_get h)).1
  rw [bRow, rdAB_row, if_pos (by omega), Nat.mul_one]
  have := bools_get h
  rw [List.getElem?_eq_getElem hj] at this
  rw [List.drop_eq_getElem_cons hj, Option.some.inj this]
  rfl
theorem bools_set (bs : List Bool) (j : Nat) (v : Bool) : (bools bs).set j (.bool v) = bools (bs.set j v) := by simp [bools, List.map_set]
theorem wr_b {h : Heap} {id : Nat} {bs : List Bool} {j : Nat} {v : Bool} (hj : j < bs.length) : wrAB h id (some (bRow bs)) (j * 1) [.bool v] = some (hset h id (bRow (bs.set j v))) := by
  have hl : (bools bs).length = bs.length := by simp [bools]
  rw [bRow, wrAB_row, if_pos ⟨by simp only [List.length_cons, List.length_nil]; omega, rfl⟩, Nat.mul_one]
  simp only [ovr, bools_set]
  rfl
theorem repl_bools (n : Nat) : repl [AV.bool false] n = bools (List.replicate n false) := by
  induction n with
  | zero => rfl
  | succ n ih => rw [repl, ih]; rfl
theorem nMS_b {e : TypeId} {by' key n : Nat} (hs : sizeT P e = some 1) (hb : bytesT P e = some by') (hz : zeroT P e = some (.bool false)) (hn : by' * n ≤ 1073741824) (hn2 : n ≤ 1073741824) (htg : tagA P e = 0 := by kernel_rfl) :
    nMS P key (some (.slice e)) (some (.int .i64 (n : Int))) (some (.int .i64 (n : Int))) = some (.slice key 0 0 n (some n), bRow (List.replicate n false)) := by
  have e1 : Nat.ble n n = true := Nat.ble_eq_true_of_le (Nat.le_refl _)
  have e2 : Nat.ble (by' * n) 1073741824 = true := Nat.ble_eq_true_of_le hn
  have e3 : Nat.ble n 1073741824 = true := Nat.ble_eq_true_of_le hn2
  have e4 : Nat.blt 0 1 = true := rfl
  have e5 : Nat.beq 1 1 = true := rfl
  simp only [nMS, nMS1, nMS2, natOf_c, hs, hb, hz, e1, e2, e3, e4, AV.cells, List.length_cons, List.length_nil, Nat.zero_add, e5, Bool.and_self, htg, rowT_mk, mkRowT_0, repl_bools]
  rfl
/-! ### lists of lists -/
/-- a slice of slices; each holds such elements -/
def Lst2 (h : Heap) (ks : List CK) (a : AV) (LL : List (List (List AV))) : Prop :=
  ∃ X : List (List AV), LstP h [.l] a X ∧ X.length = LL.length ∧ ∀ (i : Nat) (l : List (List AV)), LL[i]? = some l → ∃ x, X[i]? = some [x] ∧ LstP h ks x l
section
variable {h h1 : Heap} {ks : List CK} {a : AV} {LL : List (List (List AV))}
theorem Lst2.same (hl : Lst2 h ks a LL) (hs : SameH h h1) : Lst2 h1 ks a LL := by
  obtain ⟨X, h1, h2, h3⟩ := hl
  exact ⟨X, h1.same hs, h2, fun i l hi => let ⟨x, e, hx⟩ := h3 i l hi; ⟨x, e, hx.same hs⟩⟩
theorem Lst2.len (hl : Lst2 h ks a LL) : LL.length ≤ maxLen := by obtain ⟨X, h1, h2, _⟩ := hl; rw [← h2]; exact h1.len
theorem rLen1_L2 {t e : TypeId} {h2 : Heap} (hu : P.underlying t = some (.slice e)) (hl : Lst2 h ks a LL) : rLen1 P h2 t (some a) = some (.int .i64 (LL.length : Int)) := by
  obtain ⟨X, h1, h2, _⟩ := hl
  rw [rLen1_L hu h1, h2]
theorem Lst2.at {F : Nat} (hw : Wf ⟨h, F⟩) (hl : Lst2 h ks a LL) (hs : SameH h h1) {i : Nat} {l : List (List AV)} (hi : LL[i]? = some l) : ∃ b o eo cap x, a = .slice b o eo LL.length cap ∧ b < ky F 0 ∧ rdAB (hget h1 b) (o + i * 1) 1 = some [x] ∧ LstP h ks x l := by
  obtain ⟨X, k1, k2, k3⟩ := hl
  obtain ⟨x, e, hx⟩ := k3 i l hi
  have hil := (List.getElem?_eq_some_iff.1 e).1
  obtain ⟨b, o, eo, cap, e1, h0, _⟩ := k1.at hil
  rw [List.getElem?_eq_getElem hil] at e
  rw [Option.some.inj e] at h0
  exact ⟨b, o, eo, cap, x, by rw [e1, k2], rd_low hw h0, hs.rd h0, hx⟩
end
/-! ### causes: a text and a number -/
def ksC : List CK := [.s, .i .i64]
def seqOf : List AV → Int
  | [_, .int _ n] => n
  | _ => 0
def seqs (l : List (List AV)) : List Int := l.map seqOf
theorem cks_C {l : List AV} (h : cksOk ksC l) : ∃ s n, l = [.str s, .int .i64 n] := by
  obtain ⟨a, r, rfl, ha, b, r2, rfl, hb, hr⟩ := h
  simp only [cksOk] at hr
  subst hr
  cases a <;> simp only [ckOk] at ha <;> try exact ha.elim
  cases b <;> simp only [ckOk] at hb <;> try exact hb.elim
  obtain ⟨rfl, _⟩ := hb
  exact ⟨_, _, rfl⟩
theorem cause_at {h h1 : Heap} {F : Nat} {a : AV} {L : List (List AV)} (hw : Wf ⟨h, F⟩) (hl : LstP h ksC a L) (hs : SameH h h1) {i : Nat} (hi : i < L.length) : ∃ b o eo cap s n, a = .slice b o eo L.length cap ∧ b < ky F 0 ∧ (seqs L)[i]? = some n ∧
    rdAB (hget h1 b) (o + i * 2) 2 = some [.str s, .int .i64 n] ∧ rdAB (hget h1 b) (o + i * 2 + 1) 1 = some [.int .i64 n] := by
  obtain ⟨b, o, eo, cap, e, h0, hp⟩ := hl.at hi
  obtain ⟨s, n, el⟩ := cks_C (hl.ok hi)
  have h2 := hp 1 1 (by decide)
  rw [el] at h0 h2
  refine ⟨b, o, eo, cap, s, n, e, rd_low hw h0, ?_, hs.rd h0, hs.rd h2⟩
  rw [seqs, List.getElem?_map, List.getElem?_eq_getElem hi, el]
  rfl
end Go.Ai
namespace Go.Ai
open Go
theorem foldl_take {α β : Type} {f : β → α → β} {b : β} {l : List α} {k : Nat} {x : α} (h : l[k]? = some x) : (l.take (k + 1)).foldl f b = f ((l.take k).foldl f b) x := by
  rw [List.take_add_one, h, List.foldl_append]
  rfl
theorem marks_at {i : Nat} {b : List Bool} {l : List Int} {k : Nat} {v : Bool} (h : b[i]? = some v) : ((l.take k).foldl (bmark i) b)[i]? = some v := by rw [marks_high (Nat.le_refl i)]; exact h
theorem mark_hit {i m : Nat} {b : List Bool} (h : m < i) : bmark i b (m : Int) = b.set m true := by unfold bmark; rw [if_pos ⟨by omega, by omega⟩]; simp
theorem mark_miss {i : Nat} {b : List Bool} {c : Int} (h : ¬ (0 ≤ c ∧ c < i)) : bmark i b c = b := by unfold bmark; rw [if_neg h]
theorem ge_t {a b : Int} (h : a ≤ b) : decide (a ≤ b) = true := decide_eq_true h
theorem ge_f {a b : Int} (h : ¬ a ≤ b) : decide (a ≤ b) = false := decide_eq_false h
theorem ls_t {a b : Int} (h : a < b) : decide (a < b) = true := decide_eq_true h
theorem ls_f {a b : Int} (h : ¬ a < b) : decide (a < b) = false := decide_eq_false h
end Go.Ai
namespace Go.Ai
open Go
variable {P : Program}
theorem same_kill2 {h0 h1 : Heap} {F lc : Nat} {l : AV} {zs : List Int} (hw : Wf ⟨h0, F⟩) {h : Heap} (hi : IL h1 F lc l zs) (hs : SameH h0 h) : SameH h0 (kill h l) := by
  rcases hi with ⟨rfl, _⟩ | ⟨_, c, _, rfl, _⟩
  · exact hs
  · exact SameH.hset hw hs (ky_le F c)
theorem IL.new' {h : Heap} {F lc c : Nat} {zs ys : List Int} {x : Int} (hl : c < lc) (he : ys = zs ++ [x]) : IL (hset h (ky F c) (mkRow (ints (zs ++ [x])) 1)) F lc (.slice (ky F c) 0 0 (zs ++ [x]).length none) ys := by
  subst he
  exact IL.new hl (by rw [List.length_append]; exact Nat.succ_pos _)
theorem nBS_int {e key : Nat} {x : Int} (hs : sizeT P e = some 1) (hz : zeroT P e = some (.int .i64 0)) (htg : tagA P e = 0 := by kernel_rfl) : nBS P key 1 (some (.slice e)) (some [(0, .int .i64 x)]) = some (.slice key 0 0 1 (some 1), mkRow [.int .i64 x] 1) := by
  simp only [nBS, hs, hz, nBS2, Nat.one_mul, AV.cells, List.length_cons, List.length_nil, repl, buildArr, nBS3, htg, rowT_mk, mkRowT_0]
  rfl
theorem app_ints2 {t e by' key F lc f a b : Nat} {h : Heap} {l : AV} {zs : List Int} {x : Int} (hu : P.underlying t = some (.slice e)) (hs : sizeT P e = some 1) (hb : bytesT P e = some by') (hz : zeroOk P e 1 by' = true) (hby : by' ≤ 1000)
    (hi : IL h F lc l zs) (hn : zs.length ≤ 1000) {cap : Option Nat} (htg : tagA P e = 0 := by kernel_rfl) :
    appendA P t t key ⟨hset h (ky F (lc + a + b)) (mkRow [.int .i64 x] 1), f⟩ l (.slice (ky F (lc + a + b)) 0 0 1 cap) = some (.slice key 0 0 (zs ++ [x]).length none, ⟨hset (kill (hset h (ky F (lc + a + b)) (mkRow [.int .i64 x] 1)) l) key (mkRow (ints (zs ++ [x])) 1), f⟩) :=
  app_ints hu hu hs hb hz hby hi (by omega) hn htg
theorem readUp_len (b : List Bool) (i : Nat) : (readUp b i).length ≤ i := by
  unfold readUp
  rw [List.length_map]
  exact Nat.le_trans (List.length_filter_le _ _) (by simp)
theorem readUp_zero (b : List Bool) : readUp b 0 = [] := rfl
end Go.Ai
namespace Go.Ai
open Go
theorem ints_bools {zs : List Int} {b : List Bool} (hp : 0 < zs.length) (e : mkRow (ints zs) 1 = bRow b) : False := by
  have := mkRow_inj e
  cases zs with
  | nil => simp at hp
  | cons z zs =>
    cases b with
    | nil => simp [ints, bools] at this
    | cons c b => simp [ints, bools] at this
theorem kill_get {h h' : Heap} {F lc k : Nat} {l : AV} {zs : List Int} {b : List Bool} (hi : IL h F lc l zs) (hk : hget h k = some (bRow b)) : hget (kill h' l) k = hget h' k := by
  rcases hi with ⟨rfl, _⟩ | ⟨hp, c, _, rfl, hg⟩
  · rfl
  · simp only [kill]
    rw [hget_hset, if_neg]
    intro e
    rw [e, hg] at hk
    exact ints_bools hp (Option.some.inj hk)
end Go.Ai
namespace Go.Ai
open Go
abbrev ksN : List CK := [.i .i64]
def iL (zs : List Int) : List (List AV) := zs.map fun z => [AV.int .i64 z]
theorem iL_len (zs : List Int) : (iL zs).length = zs.length := by simp [iL]
theorem iL_flat (zs : List Int) : (iL zs).flatten = ints zs := by
  induction zs with
  | nil => rfl
  | cons z zs ih =>
    show [AV.int .i64 z] ++ (iL zs).flatten = _
    rw [ih]; rfl
theorem iL_one (zs : List Int) : ∀ x ∈ iL zs, x.length = 1 := by
  intro x hx
  obtain ⟨z, _, rfl⟩ := List.mem_map.1 hx
  rfl
end Go.Ai

/-! One table for a whole claim: pure calls by what they answer (kc_hit: the contract is proof enough), others by what is said of them. -/
namespace Go.Ai
open Go
variable {P : Program} {G : Glob} {K : CallF} {m : Nat} {Q : Ex → Fr → St → Prop} {sp : FuncId → List AV → St → Option AV} {S : FuncId → List AV → St → Out → Prop}
noncomputable def KCf (P : Program) (G : Glob) (sp : FuncId → List AV → St → Option AV) (S : FuncId → List AV → St → Out → Prop) : FuncId → List AV → St → Outs := fun f args s =>
  match sp f args s with
  | some v => open Classical in if Snd P G f args s [.val v s] then some [.val v s] else none
  | none => KUf P G S f args s
noncomputable def KC (P : Program) (G : Glob) (sp : FuncId → List AV → St → Option AV) (S : FuncId → List AV → St → Out → Prop) : CallF := ⟨KCf P G sp S, fun _ _ _ => none⟩
theorem kc_fn (f : FuncId) (args : List AV) (s : St) : CallF.fn (KC P G sp S) f args s = KCf P G sp S f args s := rfl
theorem kc_ok : KOK P G (KC P G sp S) := KOK.table fun f args s outs h => by
  unfold KCf at h
  split at h
  · split at h
    · rename_i hs; cases h; exact hs
    · cases h
  · exact ku_ok.fn _ _ _ _ h
theorem kc_hit {f : FuncId} {args : List AV} {s : St} {v : AV} (hs : sp f args s = some v) (h : Snd P G f args s [.val v s]) : CallF.fn (KC P G sp S) f args s = some [.val v s] := by
  rw [kc_fn]; unfold KCf; rw [hs]; exact if_pos h
theorem kc_miss {f : FuncId} {args : List AV} {s : St} (hs : sp f args s = none) : CallF.fn (KC P G sp S) f args s = KUf P G S f args s := by
  rw [kc_fn]; unfold KCf; rw [hs]
section
variable {l : List Oper} {ops : Array Oper} {i : Nat} {fr fr' : Fr} {s s' : St} {o : Oper} {rest : List Oper} {j : Nat} {js : List Nat} {f : FuncId} {args : List AV} {R : Out → Prop}
/-- a call of which something is said, whatever the table -/
theorem r_callC (hw : wantedA fr ops o = true) (hc : callOuts P K fr i s o.op = KUf P G S f args s) (hs : SndQ P G f args s (S f args s))
    (hk : ∀ x, S f args s x → backQ fr o.dst (fun fr' s' => WR (textOps P G K ops rest (i + 1) fr' s') Q) x) : WR (textOps P G K ops (o :: rest) i fr s) Q := by
  obtain ⟨outs, e, hq⟩ := ku_hit hs
  rw [e] at hc
  have : WR (oneOp P G K o.dst o.op i fr s (textOps P G K ops rest (i + 1))) Q := by
    rw [callOuts_one hc]
    refine wr_outs (dst := o.dst) (k := fun fr' s' => WR (textOps P G K ops rest (i + 1) fr' s') Q) ?_ fun x hx => hk x (hq x hx)
    intro v s fr' hp hk
    rw [hp]; exact hk
  obtain ⟨dst, op, ty, pos, after, g⟩ := o
  rw [textOps, hw]
  exact this
end
theorem ic_b (b : Bool) : isCell (.bool b) = true := rfl
theorem ic_i (k : IntKind) (n : Int) : isCell (.int k n) = true := rfl
theorem ic_s (l : List UInt8) : isCell (.str l) = true := rfl
theorem ic_np : isCell .nilp = true := rfl
theorem ic_p (i o : Nat) : isCell (.ptr i o) = true := rfl
theorem ic_g (i o : Nat) : isCell (.gptr i o) = true := rfl
theorem ic_ns : isCell .nils = true := rfl
theorem ic_h : isCell .hole = true := rfl
theorem ic_sl (b o e n : Nat) (c : Option Nat) : isCell (.slice b o e n c) = true := rfl
theorem ic_nm : isCell .nilm = true := rfl
theorem ic_m (i : Nat) : isCell (.map i) = true := rfl
theorem ic_nf : isCell .nilf = true := rfl
theorem ic_f (f : Fn) (a c : List AV) : isCell (.fn f a c) = true := rfl
theorem ic_ni : isCell .nili = true := rfl
theorem ic_if (t : TypeId) (v : AV) : isCell (.iface t v) = true := rfl
theorem lstOf_at {h h1 : Heap} {ks : List CK} {a : AV} {L : List (List AV)} (hl : LstP h ks a L) (hs : SameH h h1) : lstOf h1 ks a = some L := lstOf_same hl hs
end Go.Ai

/-! What texts of values and results say, in plain lists of bytes. -/
namespace Go.Ai
open Go
theorem dec_big {u : Nat} (h : ¬ u < 10) : Lib.decDigits u = Lib.decDigits (u / 10) ++ [UInt8.ofNat (48 + u % 10)] := by rw [Lib.decDigits, dif_neg h]
theorem dec_small {u : Nat} (h : u < 10) : Lib.decDigits u = [UInt8.ofNat (48 + u)] := by rw [Lib.decDigits, dif_pos h]
/-- the loop of the reference's digits: what is left, what is written -/
def digI (N n : Nat) (s : List UInt8) : Prop := ∃ r, Lib.decDigits N = Lib.decDigits n ++ r ∧ s = UInt8.ofNat (48 + n % 10) :: r
theorem digI.init (N : Nat) : digI N N [UInt8.ofNat (48 + N % 10)] := ⟨[], by simp, rfl⟩
theorem digI.step {N n : Nat} {s : List UInt8} (h : digI N n s) (hn : 10 ≤ n) : digI N (n / 10) (UInt8.ofNat (48 + n / 10 % 10) :: s) := by
  obtain ⟨r, h1, rfl⟩ := h
  exact ⟨_, by rw [h1, dec_big (by omega)]; simp, rfl⟩
theorem digI.done {N n : Nat} {s : List UInt8} (h : digI N n s) (hn : n < 10) : s = Lib.decDigits N := by
  obtain ⟨r, h1, rfl⟩ := h
  rw [h1, dec_small hn, Nat.mod_eq_of_lt hn]; rfl
theorem digI.len {N n : Nat} {s : List UInt8} (h : digI N n s) : s.length ≤ (Lib.decDigits N).length := by
  obtain ⟨r, h1, rfl⟩ := h
  have h2 := Lib.nDigits_pos n
  rw [h1, List.length_append, Lib.decDigits_length, List.length_cons]
  omega
/-- a text's bytes as a literal -/
def escB (c : UInt8) : List UInt8 := if c.toNat = 34 ∨ c.toNat = 92 then [92, c] else [c]
def escL (t : List UInt8) : List UInt8 := (t.map escB).flatten
theorem escL_app (a b : List UInt8) : escL (a ++ b) = escL a ++ escL b := by simp [escL]
theorem escL_len : ∀ t : List UInt8, (escL t).length ≤ 2 * t.length
  | [] => by simp [escL]
  | c :: t => by
    have := escL_len t
    have h1 : (escB c).length ≤ 2 := by unfold escB; split <;> simp
    simp only [escL, List.map_cons, List.flatten_cons, List.length_append, List.length_cons] at *
    omega
theorem escL_take {t : List UInt8} {i : Nat} {c : UInt8} (h : t[i]? = some c) : escL (t.take (i + 1)) = escL (t.take i) ++ escB c := by
  rw [List.take_add_one, h, escL_app]; simp [escL]
def litN : List UInt8 := [110, 111, 110, 101]
noncomputable def printV (k n : Int) (t : List UInt8) : List UInt8 := open Classical in if vOk k n t then (if k = 0 then litN else if k = 1 then Lib.itoa n else 34 :: (escL t ++ [34])) else []
theorem printV_bad {k n : Int} {t : List UInt8} (h : ¬ vOk k n t) : printV k n t = [] := by unfold printV; rw [if_neg h]
theorem printV_none {k n : Int} {t : List UInt8} (h : vOk k n t) (h0 : k = 0) : printV k n t = litN := by unfold printV; rw [if_pos h, if_pos h0]
theorem printV_int {k n : Int} {t : List UInt8} (h : vOk k n t) (h0 : k = 1) : printV k n t = Lib.itoa n := by unfold printV; rw [if_pos h, if_neg (by omega), if_pos h0]
theorem printV_text {k n : Int} {t : List UInt8} (h : vOk k n t) (h0 : ¬ k = 0) (h1 : ¬ k = 1) : printV k n t = 34 :: (escL t ++ [34]) := by unfold printV; rw [if_pos h, if_neg h0, if_neg h1]
theorem printV_len {k n : Int} {t : List UInt8} (h0 : -9223372036854775808 ≤ n) (h1 : n ≤ 9223372036854775807) (hl : (Lib.itoa n).length ≤ 21) : (printV k n t).length ≤ 130 := by
  unfold printV
  split
  · rename_i h
    split
    · decide
    · split
      · omega
      · have : t.length ≤ 64 := by rcases h with h | h | h <;> simp_all
        have := escL_len t
        simp only [List.length_cons, List.length_append, List.length_nil]; omega
  · simp
/-- the word of a result's kind -/
def wordL (k : Int) : List UInt8 := match k with
  | 0 => [110, 111, 110, 101]
  | 1 => [100, 111, 110, 101]
  | 2 => [97, 98, 111, 114, 116, 101, 100]
  | 3 => [102, 97, 117, 108, 116, 101, 100]
  | 4 => [115, 116, 97, 108, 101]
  | 5 => [102, 117, 108, 108]
  | 6 => [103, 117, 97, 114, 100]
  | _ => []
/-- a value's cells as a literal -/
noncomputable def printC : List AV → List UInt8
  | [.int _ k, .int _ n, .str t] => printV k n t
  | _ => []
/-- a result's cells and values as a text -/
noncomputable def headR (q k c p : Int) : List (List UInt8) := [Lib.itoa q, wordL k, Lib.itoa c, Lib.itoa p]
noncomputable def printR (q k c p : Int) (o : List (List AV)) : List UInt8 := Lib.join (headR q k c p ++ o.map printC) [32]
theorem join_snoc (x : List UInt8) (r : List (List UInt8)) (y sep : List UInt8) : Lib.join (x :: r ++ [y]) sep = Lib.join (x :: r) sep ++ (sep ++ y) := by
  rw [List.cons_append, Lib.join_cons, Lib.join_cons]
  simp [Lib.joinTail]
theorem printR_nil (q k c p : Int) : printR q k c p [] = Lib.itoa q ++ [32] ++ wordL k ++ [32] ++ Lib.itoa c ++ [32] ++ Lib.itoa p := by
  simp [printR, headR, Lib.join_cons, Lib.joinTail]
theorem printR_snoc (q k c p : Int) (o : List (List AV)) (x : List AV) : printR q k c p (o ++ [x]) = printR q k c p o ++ [32] ++ printC x := by
  unfold printR headR
  rw [List.map_append, ← List.append_assoc]
  simp only [List.cons_append, List.nil_append, List.map_cons, List.map_nil]
  have := join_snoc (Lib.itoa q) ([wordL k, Lib.itoa c, Lib.itoa p] ++ o.map printC) (printC x) [32]
  simp only [List.cons_append, List.nil_append] at this
  rw [this]
  simp
end Go.Ai

/-! Lists of structs of which one part is a list itself; results. -/
namespace Go.Ai
open Go
noncomputable def innerOf (h : Heap) (ks2 : List CK) (j : Nat) : List (List AV) → Option (List (List (List AV)))
  | [] => some []
  | x :: X => match (x[j]?).bind (lstOf h ks2), innerOf h ks2 j X with
    | some l, some Y => some (l :: Y)
    | _, _ => none
def RowN (h : Heap) (ks : List CK) (j : Nat) (ks2 : List CK) (a : AV) (X : List (List AV)) (Y : List (List (List AV))) : Prop := LstP h ks a X ∧ innerOf h ks2 j X = some Y
noncomputable def rowsOf (h : Heap) (ks : List CK) (j : Nat) (ks2 : List CK) (a : AV) : Option (List (List AV) × List (List (List AV))) :=
  match lstOf h ks a with
  | some X => match innerOf h ks2 j X with
    | some Y => some (X, Y)
    | none => none
  | none => none
section
variable {h h' : Heap} {ks ks2 : List CK} {j : Nat} {a : AV} {X : List (List AV)} {Y : List (List (List AV))}
theorem inner_at : ∀ {X : List (List AV)} {Y : List (List (List AV))}, innerOf h ks2 j X = some Y → Y.length = X.length ∧ ∀ (i : Nat) (x : List AV), X[i]? = some x → ∃ v l, x[j]? = some v ∧ Y[i]? = some l ∧ LstP h ks2 v l
  | [], Y, e => by cases e; exact ⟨rfl, by simp⟩
  | x :: X, Y, e => by
    simp only [innerOf] at e
    split at e
    · rename_i l Y' h1 h2
      cases e
      obtain ⟨g1, g2⟩ := inner_at h2
      refine ⟨by simp [g1], fun i y hi => ?_⟩
      cases i with
      | zero =>
        simp at hi; subst hi
        cases hx : x[j]? with
        | none => rw [hx] at h1; cases h1
        | some v => rw [hx] at h1; exact ⟨v, l, rfl, rfl, lstOf_p h1⟩
      | succ i => exact g2 i y (by simpa using hi)
    · cases e
theorem inner_mk : ∀ {X : List (List AV)} {Y : List (List (List AV))}, Y.length = X.length → (∀ (i : Nat) (x : List AV), X[i]? = some x → ∃ v l, x[j]? = some v ∧ Y[i]? = some l ∧ LstP h ks2 v l) → innerOf h ks2 j X = some Y
  | [], Y, e, _ => by have := List.length_eq_zero_iff.1 e; subst this; rfl
  | x :: X, Y, e, hx => by
    cases Y with
    | nil => simp at e
    | cons l Y =>
      obtain ⟨v, l', h1, h2, h3⟩ := hx 0 x rfl
      simp at h2; subst h2
      have ih := inner_mk (X := X) (Y := Y) (by simpa using e) fun i y hi => by simpa using hx (i + 1) y (by simpa using hi)
      simp only [innerOf, h1, Option.bind_some, lstOf_eq h3, ih]
theorem inner_same (hs : SameH h h') : ∀ {X : List (List AV)} {Y : List (List (List AV))}, innerOf h ks2 j X = some Y → innerOf h' ks2 j X = some Y := fun {X Y} e => by
  obtain ⟨h1, h2⟩ := inner_at e
  exact inner_mk h1 fun i x hx => let ⟨v, l, g1, g2, g3⟩ := h2 i x hx; ⟨v, l, g1, g2, g3.same hs⟩
theorem RowN.same (r : RowN h ks j ks2 a X Y) (hs : SameH h h') : RowN h' ks j ks2 a X Y := ⟨r.1.same hs, inner_same hs r.2⟩
theorem rowsOf_eq (r : RowN h ks j ks2 a X Y) : rowsOf h ks j ks2 a = some (X, Y) := by unfold rowsOf; rw [lstOf_eq r.1]; simp only; rw [r.2]
theorem rowsOf_p (e : rowsOf h ks j ks2 a = some (X, Y)) : RowN h ks j ks2 a X Y := by
  unfold rowsOf at e
  split at e
  · rename_i X' h1
    split at e
    · rename_i Y' h2; cases e; exact ⟨lstOf_p h1, h2⟩
    · cases e
  · cases e
theorem rowsOf_same (r : RowN h ks j ks2 a X Y) (hs : SameH h h') : rowsOf h' ks j ks2 a = some (X, Y) := rowsOf_eq (r.same hs)
theorem RowN.len (r : RowN h ks j ks2 a X Y) : Y.length = X.length := (inner_at r.2).1
theorem RowN.get (r : RowN h ks j ks2 a X Y) {i : Nat} {x : List AV} (hx : X[i]? = some x) : ∃ v l, x[j]? = some v ∧ Y[i]? = some l ∧ LstP h ks2 v l := (inner_at r.2).2 i x hx
end
/-! ### results -/
abbrev ksR : List CK := [.i .i64, .i .i64, .i .i64, .i .i64, .l]
def in64 (n : Int) : Prop := -9223372036854775808 ≤ n ∧ n ≤ 9223372036854775807
theorem cks_R {l : List AV} (h : cksOk ksR l) : ∃ q k c p o, l = [.int .i64 q, .int .i64 k, .int .i64 c, .int .i64 p, o] ∧ in64 q ∧ in64 k ∧ in64 c ∧ in64 p := by
  obtain ⟨a, r, rfl, ha, b, r, rfl, hb, c, r, rfl, hc, d, r, rfl, hd, e, r, rfl, he, rfl⟩ := h
  cases a <;> simp only [ckOk] at ha <;> try exact ha.elim
  cases b <;> simp only [ckOk] at hb <;> try exact hb.elim
  cases c <;> simp only [ckOk] at hc <;> try exact hc.elim
  cases d <;> simp only [ckOk] at hd <;> try exact hd.elim
  obtain ⟨rfl, a1, a2⟩ := ha
  obtain ⟨rfl, b1, b2⟩ := hb
  obtain ⟨rfl, c1, c2⟩ := hc
  obtain ⟨rfl, d1, d2⟩ := hd
  exact ⟨_, _, _, _, _, rfl, ⟨a1, a2⟩, ⟨b1, b2⟩, ⟨c1, c2⟩, ⟨d1, d2⟩⟩
theorem cks_V64 {l : List AV} (h : cksOk ksV l) : ∃ k n t, l = [.int .i64 k, .int .i64 n, .str t] ∧ in64 k ∧ in64 n ∧ t.length ≤ maxLen := by
  obtain ⟨a, r, rfl, ha, b, r, rfl, hb, c, r, rfl, hc, rfl⟩ := h
  cases a <;> simp only [ckOk] at ha <;> try exact ha.elim
  cases b <;> simp only [ckOk] at hb <;> try exact hb.elim
  cases c <;> simp only [ckOk] at hc <;> try exact hc.elim
  obtain ⟨rfl, a1, a2⟩ := ha
  obtain ⟨rfl, b1, b2⟩ := hb
  exact ⟨_, _, _, rfl, ⟨a1, a2⟩, ⟨b1, b2⟩, hc⟩
noncomputable def resT : List AV → List (List AV) → List UInt8
  | [.int _ q, .int _ k, .int _ c, .int _ p, _], o => printR q k c p o
  | _, _ => []
noncomputable def tabT (X : List (List AV)) (Y : List (List (List AV))) : List UInt8 := (List.zipWith (fun x o => resT x o ++ [10]) X Y).flatten
theorem zip_take {α β γ : Type} (f : α → β → γ) : ∀ (X : List α) (Y : List β) (n : Nat), List.zipWith f (X.take n) (Y.take n) = (List.zipWith f X Y).take n := fun X Y n => by rw [List.take_zipWith]
theorem tabT_take {X : List (List AV)} {Y : List (List (List AV))} {i : Nat} {x : List AV} {o : List (List AV)} (hx : X[i]? = some x) (ho : Y[i]? = some o) : tabT (X.take (i + 1)) (Y.take (i + 1)) = tabT (X.take i) (Y.take i) ++ (resT x o ++ [10]) := by
  unfold tabT
  rw [zip_take, zip_take, List.take_add_one]
  have : (List.zipWith (fun x o => resT x o ++ [10]) X Y)[i]? = some (resT x o ++ [10]) := by
    rw [List.getElem?_zipWith, hx, ho]
  rw [this]
  simp
/-- two lists of results are the same -/
def resAll (X X2 : List (List AV)) (Y Y2 : List (List (List AV))) : Prop := X.length = X2.length ∧ ∀ (i : Nat) (x x2 : List AV) (o o2 : List (List AV)), X[i]? = some x → X2[i]? = some x2 → Y[i]? = some o → Y2[i]? = some o2 → x.take 4 = x2.take 4 ∧ o = o2
theorem resAll_self (X : List (List AV)) (Y : List (List (List AV))) : resAll X X Y Y := ⟨rfl, fun i x x2 o o2 h1 h2 h3 h4 => by rw [h1] at h2; rw [h3] at h4; cases h2; cases h4; exact ⟨rfl, rfl⟩⟩
section
variable {h h1 : Heap} {F : Nat} {a : AV} {X : List (List AV)} {Y : List (List (List AV))}
theorem res_at (hw : Wf ⟨h, F⟩) (hl : RowN h ksR 4 ksV a X Y) (hs : SameH h h1) {i : Nat} (hi : i < X.length) : ∃ b o eo cap q k c p v l, a = .slice b o eo X.length cap ∧ b < ky F 0 ∧ X[i]? = some [.int .i64 q, .int .i64 k, .int .i64 c, .int .i64 p, v] ∧ Y[i]? = some l ∧
    in64 q ∧ in64 k ∧ in64 c ∧ in64 p ∧ LstP h ksV v l ∧ rdAB (hget h1 b) (o + i * 5) 5 = some [.int .i64 q, .int .i64 k, .int .i64 c, .int .i64 p, v] ∧ rdAB (hget h1 b) (o + i * 5 + 4) 1 = some [v] := by
  obtain ⟨b, o, eo, cap, e, h0, hp⟩ := hl.1.at hi
  obtain ⟨q, k, c, p, v, el, q1, q2, q3, q4⟩ := cks_R (hl.1.ok hi)
  have hx : X[i]? = some [.int .i64 q, .int .i64 k, .int .i64 c, .int .i64 p, v] := by rw [List.getElem?_eq_getElem hi, el]
  obtain ⟨v', l, g1, g2, g3⟩ := hl.get hx
  simp at g1; subst g1
  rw [el] at h0 hp
  exact ⟨b, o, eo, cap, q, k, c, p, v, l, e, rd_low hw h0, hx, g2, q1, q2, q3, q4, g3, hs.rd h0, hs.rd (hp 4 1 (by decide))⟩
end
end Go.Ai

/-! A call of the shelf whose end is: new memory at the end, draws; and what it answers is no place. A table that a world holds. -/
namespace Go.Ai
open Go
variable {P : Program} {G : Glob}
theorem snd_grow (hn : NoNum P) {f : FuncId} {fn : Func} {c : Code} (hf : P.funcs[f]? = some fn) (hb : fn.body = some c) {args : List AV} {a : AV} {us : List Value} {u : Value} {s : St} (hargs : ∀ ρ vs, RVs ρ args vs → vs = us) (ha : ∀ ρ, RV ρ a u)
    (hc : ∀ base w, RG G base w → Calls P f us.toArray w fun e w' => e = .returned u ∧ ∃ k os, w' = Go.Sort.grow (w.drewN k) os) : Snd P G f args s [.val a s] := by
  intro base ρ w vs rv rm
  have := hargs ρ vs rv
  subst this
  rw [callFunc_enter hn hf hb]
  refine Calls.mono (hc base w rm.rg) ?_
  rintro x w' ⟨rfl, k, os, rfl⟩
  refine ⟨ρ, .inl ⟨a, s, u, List.mem_singleton.2 rfl, rfl, ha ρ, rm.keeps ⟨rfl, rfl, rfl, by simp [Go.Sort.grow, World.drewN], fun b hb _ => ?_⟩⟩⟩
  simp only [Go.Sort.grow]
  exact Array.getElem?_append_left hb
/-- numbers as a table's cells -/
noncomputable def tabA (k : IntKind) (zs : List Int) : List AV := zs.map fun z => .int k z
theorem tab_is {base g : Nat} {w : World} {k : IntKind} {zs : List Int} {name : String} (rg : RG G base w) (hg : gget G g = some (tabA k zs)) (hn : P.globalNamed name = some g) : Go.Lib.TabIs P w name k zs := by
  obtain ⟨_, c, ty, fz, hc, hs, hv⟩ := rg g _ hg
  unfold Go.Lib.TabIs World.var?
  rw [hn]
  simp only [Option.bind_some, hc, Option.some.injEq]
  have hs : c.size = zs.length := by rw [hs, tabA, List.length_map]
  apply Array.ext_getElem?
  intro i
  by_cases hi : i < zs.length
  · obtain ⟨v, h1, h2⟩ := hv i (.int k zs[i]) (by rw [tabA, List.getElem?_map, List.getElem?_eq_getElem hi]; rfl)
    simp only [RV] at h2
    rw [h1, h2]
    simp [hi]
  · rw [Array.getElem?_eq_none (by omega)]
    simp [hi]
end Go.Ai

/-! Lists that a function grows in blocks of its own. -/
namespace Go.Ai
open Go
variable {P : Program}
def OwnL (h : Heap) (F c es : Nat) (l : AV) (L : List (List AV)) : Prop :=
  ∃ pre : List (List AV), hget h (ky F c) = some (mkRow (pre ++ L).flatten es) ∧ (∀ x ∈ pre ++ L, x.length = es) ∧
    (l = .slice (ky F c) (pre.length * es) pre.length L.length none ∨ ∃ eo, l = .slice (ky F c) (pre.length * es) eo L.length (some L.length))
noncomputable def killQ (h : Heap) : AV → Heap
  | .slice k _ _ _ none => hset h k .dead
  | _ => h
theorem flat_length {L : List (List AV)} {es : Nat} (h : ∀ x ∈ L, x.length = es) : L.flatten.length = L.length * es := (flatten_get h).1
section
variable {h h' : Heap} {F c es : Nat} {l : AV} {L N : List (List AV)}
theorem OwnL.get (hi : OwnL h F c es l L) : ∃ pre : List (List AV), hget h (ky F c) = some (mkRow (pre ++ L).flatten es) := let ⟨pre, h1, _⟩ := hi; ⟨pre, h1⟩
theorem OwnL.move (hi : OwnL h F c es l L) (he : hget h' (ky F c) = hget h (ky F c)) : OwnL h' F c es l L := by
  obtain ⟨pre, h1, h2, h3⟩ := hi
  exact ⟨pre, by rw [he]; exact h1, h2, h3⟩
theorem OwnL.new {cap : Option Nat} (hL : ∀ x ∈ L, x.length = es) (hg : hget h (ky F c) = some (mkRow L.flatten es)) (hc : cap = none ∨ cap = some L.length) : OwnL h F c es (.slice (ky F c) 0 0 L.length cap) L := by
  refine ⟨[], hg, by simpa using hL, ?_⟩
  rcases hc with rfl | rfl
  · left; simp
  · right; exact ⟨0, by simp⟩
/-- the cells of the list, from its place on -/
theorem OwnL.cells (hi : OwnL h F c es l L) : ∃ pre : List (List AV), ∃ eo cap, l = .slice (ky F c) (pre.length * es) eo L.length cap ∧ rdAB (hget h (ky F c)) (pre.length * es) (L.length * es) = some L.flatten := by
  obtain ⟨pre, h1, h2, h3⟩ := hi
  have e1 : pre.flatten.length = pre.length * es := flat_length fun x hx => h2 x (List.mem_append_left _ hx)
  have e2 : L.flatten.length = L.length * es := flat_length fun x hx => h2 x (List.mem_append_right _ hx)
  have hr : rdAB (hget h (ky F c)) (pre.length * es) (L.length * es) = some L.flatten := by
    rw [h1, rdAB_row, if_pos (by rw [List.flatten_append, List.length_append]; omega), List.flatten_append, ← e1, List.drop_append_of_le_length (Nat.le_refl _), List.drop_length, List.nil_append, ← e2, List.take_length]
  rcases h3 with rfl | ⟨eo, rfl⟩
  · exact ⟨pre, _, _, rfl, hr⟩
  · exact ⟨pre, _, _, rfl, hr⟩
theorem OwnL.lst {ks : List CK} (hi : OwnL h F c ks.length l L) (hok : ∀ x ∈ L, cksOk ks x) (hm : L.length ≤ maxLen) : LstP h ks l L := by
  obtain ⟨pre, eo, cap, rfl, hr⟩ := hi.cells
  exact ⟨hok, hm, .inr ⟨_, _, _, _, rfl, fun _ => hr⟩⟩
/-- the first one -/
theorem OwnL.head {x : List AV} (hi : OwnL h F c es l (x :: L)) (hes : x.length = es) : ∃ o eo cap, l = .slice (ky F c) o eo (L.length + 1) cap ∧ rdAB (hget h (ky F c)) (o + 0 * es) es = some x := by
  obtain ⟨pre, eo, cap, rfl, hr⟩ := hi.cells
  refine ⟨_, _, _, rfl, ?_⟩
  have := rdAB_part hr (k := 0) (j := es) (by simp [Nat.add_mul])
  rw [Nat.zero_mul, this, List.drop_zero, List.flatten_cons, ← hes, List.take_append_of_le_length (Nat.le_refl _), List.take_length]
/-- but the first one -/
theorem OwnL.tail {t e : TypeId} {x : List AV} (hu : P.underlying t = some (.slice e)) (hs : sizeT P e = some es) (hi : OwnL h F c es l (x :: L)) : ∃ l', sliceA P t l (some (.int .i64 1)) none none = some l' ∧ OwnL h F c es l' L := by
  obtain ⟨pre, h1, h2, h3⟩ := hi
  have hb : ∀ lim, L.length + 1 ≤ lim → boundsA (L.length + 1) lim (some (.int .i64 1)) none none = some (1, L.length + 1, none) := by
    intro lim hl
    have e1 : Nat.ble 1 (L.length + 1) = true := Nat.ble_eq_true_of_le (by omega)
    have e2 : Nat.ble (L.length + 1) lim = true := Nat.ble_eq_true_of_le hl
    have e3 : natOf (.int .i64 1) = some 1 := rfl
    simp only [boundsA, boundA, e3, e1, e2, Bool.and_self]
  have hpre : (pre ++ [x]) ++ L = pre ++ x :: L := by simp
  rcases h3 with rfl | ⟨eo, rfl⟩
  · refine ⟨_, ?_, pre ++ [x], by rw [hpre]; exact h1, by rw [hpre]; exact h2, .inl rfl⟩
    simp only [sliceA, hu, sliceD, hs, List.length_cons, hb _ (Nat.le_refl _), sliceOpen]
    congr 1
    rw [List.length_append, List.length_singleton]
    have e3 : Nat.add (pre.length * es) (Nat.mul 1 es) = (pre.length + 1) * es := by rw [Nat.add_mul, Nat.one_mul]; show pre.length * es + 1 * es = _; rw [Nat.one_mul]
    rw [e3]; rfl
  · refine ⟨_, ?_, pre ++ [x], by rw [hpre]; exact h1, by rw [hpre]; exact h2, .inr ⟨eo, rfl⟩⟩
    simp only [sliceA, hu, sliceD, hs, List.length_cons, hb _ (Nat.le_refl _), sliceShut]
    congr 1
    rw [List.length_append, List.length_singleton]
    have e3 : Nat.add (pre.length * es) (Nat.mul 1 es) = (pre.length + 1) * es := by rw [Nat.add_mul, Nat.one_mul]; show pre.length * es + 1 * es = _; rw [Nat.one_mul]
    rw [e3]; rfl
/-- APPEND: a new block; the old one is gone, where its room was not known. -/
theorem app_own {t t2 e e2 by' key : Nat} {s : St} {b : AV} (hu : P.underlying t = some (.slice e)) (h2 : P.underlying t2 = some (.slice e2)) (hs : sizeT P e = some es) (hb : bytesT P e = some by') (hz : zeroOk P e es by' = true)
    (hi : OwnL s.h F c es l L) (hsrc : srcCells s.h es b = some (N.length, N.flatten)) (hp : 0 < N.length) (hes : 0 < es) (hN : ∀ x ∈ N, x.length = es) (hc : allCell N.flatten = true) (hn : L.length + N.length ≤ 100000) (hby : by' ≤ 1000) (htg : tagA P e = 0 := by kernel_rfl) :
    appendA P t t2 key s l b = some (.slice key 0 0 (L ++ N).length none, ⟨hset (killQ s.h l) key (mkRow (L ++ N).flatten es), s.fc⟩) := by
  obtain ⟨pre, h1, hl, h3⟩ := hi
  obtain ⟨n, hnn⟩ : ∃ k, N.length = k + 1 := ⟨N.length - 1, by omega⟩
  have e1 : pre.flatten.length = pre.length * es := flat_length fun x hx => hl x (List.mem_append_left _ hx)
  have e2 : L.flatten.length = L.length * es := flat_length fun x hx => hl x (List.mem_append_right _ hx)
  have hble : Nat.ble ((2 * (L.length + (n + 1)) + 1024) * by') 281474976710656 = true := by
    rw [Nat.ble_eq]; exact Nat.le_trans (Nat.mul_le_mul (by omega : 2 * (L.length + (n + 1)) + 1024 ≤ 201024) hby) (by decide)
  have hrow : (pre ++ L).flatten.length = pre.length * es + L.length * es := by rw [List.flatten_append, List.length_append, e1, e2]
  have hfit : Nat.ble (pre.length * es + (L.length + (n + 1)) * es) (pre ++ L).flatten.length = false := by
    have : ¬ (pre.length * es + (L.length + (n + 1)) * es ≤ (pre ++ L).flatten.length) := by
      rw [hrow, Nat.add_mul L.length]
      have : 0 < (n + 1) * es := Nat.mul_pos (by omega) hes
      omega
    cases hq : Nat.ble (pre.length * es + (L.length + (n + 1)) * es) (pre ++ L).flatten.length with
    | false => rfl
    | true => exact absurd (Nat.le_of_ble_eq_true hq) this
  have hrd : readCells s.h (ky F c) (pre.length * es) (L.length * es) = some L.flatten := by
    rw [readCells_eq, h1, rdAB_row, if_pos (by omega), List.flatten_append, ← e1, List.drop_append_of_le_length (Nat.le_refl _), List.drop_length, List.nil_append, ← e2, List.take_length]
  have hbb : (Nat.beq es es && Nat.beq (pre.length * es) (pre.length * es) && allCell N.flatten) = true := by rw [hc]; simp
  have hno : Nat.ble (L.length + (n + 1)) L.length = false := by
    cases hq : Nat.ble (L.length + (n + 1)) L.length with
    | false => rfl
    | true => have := Nat.le_of_ble_eq_true hq; omega
  rw [hnn] at hsrc
  rw [List.length_append, hnn, List.flatten_append]
  rcases h3 with rfl | ⟨eo, rfl⟩
  · simp only [appendA, hu, h2, hs, hb, hz, hsrc, hble, h1]
    simp only [mkRow, hfit, hbb, hrd, tagM_0, rowT_mk, mkRowT_0, St.upd_eq, killQ]
  · simp only [appendA, hu, h2, hs, hb, hz, hsrc, hble, h1]
    simp only [mkRow, hfit, hno, hrd, htg, rowT_mk, mkRowT_0, St.upd_eq, killQ]
theorem killQ_get {h : Heap} {k : Nat} (hi : OwnL h F c es l L) {h2 : Heap} (hk : k ≠ ky F c) : hget (killQ h2 l) k = hget h2 k := by
  obtain ⟨pre, _, _, h3⟩ := hi
  rcases h3 with rfl | ⟨eo, rfl⟩
  · simp only [killQ]; rw [hget_hset, if_neg hk]
  · rfl
theorem same_killQ {h0 : Heap} (hw : Wf ⟨h0, F⟩) {h2 : Heap} (hi : OwnL h F c es l L) (hs : SameH h0 h2) : SameH h0 (killQ h2 l) := by
  obtain ⟨pre, _, _, h3⟩ := hi
  rcases h3 with rfl | ⟨eo, rfl⟩
  · exact SameH.hset hw hs (ky_le F c)
  · exact hs
end
end Go.Ai

/-! A map of numbers, each with a one. -/
namespace Go.Ai
open Go
variable {P : Program} {t : TypeId}
def entI : List Int → Nat → MEs
  | [], _ => []
  | z :: zs, n => (.int .i64 z, .int .i64 1, n) :: entI zs (n + 1)
noncomputable def iMap (zs : List Int) : AB := .map (entI zs 0) zs.length
theorem eqIn_int {d : Nat} {x y : Int} (hu : P.underlying t = some (.int .i64)) : eqIn P (d + 1) t (.int .i64 x) (.int .i64 y) = some (x == y) := by
  simp only [eqIn, hu, decide_true]
theorem findK_int (hu : P.underlying t = some (.int .i64)) {x : Int} : ∀ (zs : List Int) (n i : Nat), (x ∈ zs → ∃ a k b, findK P t (.int .i64 x) (entI zs n) i = some (some (a, k, .int .i64 1, b))) ∧ (¬ x ∈ zs → findK P t (.int .i64 x) (entI zs n) i = some none)
  | [], n, i => ⟨fun h => absurd h (by simp), fun _ => rfl⟩
  | z :: zs, n, i => by
    have ih := findK_int hu (x := x) zs (n + 1) (Nat.succ i)
    have e : findK P t (.int .i64 x) (entI (z :: zs) n) i = match eqIn P 100 t (.int .i64 x) (.int .i64 z) with
        | some true => some (some (i, .int .i64 z, .int .i64 1, n))
        | some false => findK P t (.int .i64 x) (entI zs (n + 1)) (Nat.succ i)
        | none => none := rfl
    rw [e, eqIn_int hu]
    by_cases hx : x = z
    · subst hx
      simp
    · have : (x == z) = false := by simpa using hx
      rw [this]
      simp only [List.mem_cons, hx, false_or]
      exact ih
theorem entI_app : ∀ (zs : List Int) (x : Int) (n : Nat), entI zs n ++ [(.int .i64 x, .int .i64 1, n + zs.length)] = entI (zs ++ [x]) n
  | [], x, n => by simp [entI]
  | z :: zs, x, n => by
    simp only [entI, List.cons_append, List.length_cons]
    rw [← entI_app zs x (n + 1), show n + (zs.length + 1) = n + 1 + zs.length by omega]
theorem rLk_in {h : Heap} {id : Nat} {et : TypeId} {zs : List Int} {x : Int} (hu : P.underlying t = some (.int .i64)) (hz : zeroT P et = some (.int .i64 0)) (hg : hget h id = some (iMap zs)) (hx : x ∈ zs) : rLk P h false (some (.map t et)) (some (.map id)) (some (.int .i64 x)) = some (.int .i64 1) := by
  obtain ⟨a, k, b, e⟩ := (findK_int hu (x := x) zs 0 0).1 hx
  have hk : keyOk P t (.int .i64 x) = true := by simp [keyOk, hu, keyD, plainV]
  simp only [rLk, mapOf, hg, iMap, rLk1, hk, hz, e, rLk2, okV]
theorem rLk_out {h : Heap} {id : Nat} {et : TypeId} {zs : List Int} {x : Int} (hu : P.underlying t = some (.int .i64)) (hz : zeroT P et = some (.int .i64 0)) (hg : hget h id = some (iMap zs)) (hx : ¬ x ∈ zs) : rLk P h false (some (.map t et)) (some (.map id)) (some (.int .i64 x)) = some (.int .i64 0) := by
  have e := (findK_int hu (x := x) zs 0 0).2 hx
  have hk : keyOk P t (.int .i64 x) = true := by simp [keyOk, hu, keyD, plainV]
  simp only [rLk, mapOf, hg, iMap, rLk1, hk, hz, e, rLk2, okV]
theorem aMU_out {s : St} {id : Nat} {et : TypeId} {zs : List Int} {x : Int} (hu : P.underlying t = some (.int .i64)) (hg : hget s.h id = some (iMap zs)) (hx : ¬ x ∈ zs) :
    aMU P s (some (.map t et)) (some (.map id)) (some (.int .i64 x)) (some (.int .i64 1)) = some [.val .undef ⟨hset s.h id (iMap (zs ++ [x])), s.fc⟩] := by
  have e := (findK_int hu (x := x) zs 0 0).2 hx
  have hk : keyOk P t (.int .i64 x) = true := by simp [keyOk, hu, keyD, plainV]
  have ha := entI_app zs x 0
  rw [Nat.zero_add] at ha
  simp only [aMU, aMU2, hg, iMap, setK, hk, e, setK2, listC_eq, natC_eq, aMU3, St.upd_eq, ha, List.length_append, List.length_singleton]
theorem iMap_row {zs : List Int} {l : List AV} {es : Nat} (e : iMap zs = mkRow l es) : False := by
  simp [iMap, mkRow] at e
end Go.Ai

/-! What lies below a frame stays; lists in the frames between two numbers. -/
namespace Go.Ai
open Go
variable {P : Program}
/-- all that lies below the frame's names is as it was -/
def Low (F : Nat) (h h' : Heap) : Prop := ∀ i, i < ky F 0 → hget h' i = hget h i
theorem Low.refl (F : Nat) (h : Heap) : Low F h h := fun _ _ => rfl
theorem Low.trans {F : Nat} {a b c : Heap} (h1 : Low F a b) (h2 : Low F b c) : Low F a c := fun i hi => (h2 i hi).trans (h1 i hi)
theorem ky_mono {F G : Nat} (h : F ≤ G) : ky F 0 ≤ ky G 0 := by unfold ky; omega
theorem ky_next (F c : Nat) (hc : c ≤ 1267650600228229401496703205375) : ky F c < ky (F + 1) 0 := by unfold ky; omega
theorem Low.down {F G : Nat} {h h' : Heap} (hl : Low G h h') (hf : F ≤ G) : Low F h h' := fun i hi => hl i (Nat.lt_of_lt_of_le hi (ky_mono hf))
theorem Low.set {F G c : Nat} {h h' : Heap} {b : AB} (hl : Low F h h') (hf : F ≤ G) : Low F h (hset h' (ky G c) b) := fun i hi => by
  rw [hget_hset, if_neg]
  · exact hl i hi
  · intro e
    have h1 := ky_le G c
    have h2 := ky_mono hf
    omega
theorem Low.same {F : Nat} {h h' : Heap} (hw : Wf ⟨h, F⟩) (hl : Low F h h') : SameH h h' := fun i ab hi hd => by
  rw [hl i (hw i ab hi hd)]; exact hi
theorem Low.kill {F lc : Nat} {h h' h2 : Heap} {l : AV} {zs : List Int} (hl : Low F h h') (hi : IL h2 F lc l zs) : Low F h (Ai.kill h' l) := by
  rcases hi with ⟨rfl, _⟩ | ⟨_, c, _, rfl, _⟩
  · exact hl
  · exact hl.set (Nat.le_refl F)
/-- a call changes nothing of the caller's -/
theorem Low.own {F G c : Nat} {h h' : Heap} (hl : Low G h h') (hf : F < G) (hc : c ≤ 1267650600228229401496703205375) : hget h' (ky F c) = hget h (ky F c) := by
  refine hl _ ?_
  have h1 := ky_next F c hc
  have h2 : ky (F + 1) 0 ≤ ky G 0 := ky_mono hf
  omega
/-- the same in the frames from A on, below B -/
def EqI (A B : Nat) (h h' : Heap) : Prop := ∀ b, ky A 0 ≤ b → b < ky B 0 → hget h' b = hget h b
theorem EqI.refl (A B : Nat) (h : Heap) : EqI A B h h := fun _ _ _ => rfl
theorem EqI.trans {A B : Nat} {a b c : Heap} (h1 : EqI A B a b) (h2 : EqI A B b c) : EqI A B a c := fun i hi hj => (h2 i hi hj).trans (h1 i hi hj)
theorem EqI.set {A B F c : Nat} {h h' : Heap} {b : AB} (he : EqI A B h h') (hf : F < A ∨ B ≤ F) (hc : c ≤ 1267650600228229401496703205375) : EqI A B h (hset h' (ky F c) b) := fun i h1 h2 => by
  rw [hget_hset, if_neg]
  · exact he i h1 h2
  · intro e
    have h3 := ky_le F c
    have h4 := ky_next F c hc
    rcases hf with hf | hf
    · have : ky (F + 1) 0 ≤ ky A 0 := ky_mono hf
      omega
    · have := ky_mono hf
      omega
theorem EqI.call {A B G : Nat} {h h' h2 : Heap} (he : EqI A B h h') (hl : Low G h' h2) (hg : B ≤ G) : EqI A B h h2 := fun i h1 h3 => by
  rw [hl i (Nat.lt_of_lt_of_le h3 (ky_mono hg))]; exact he i h1 h3
/-- a list in the frames from A on, below B -/
def LstI (A B : Nat) (h : Heap) (ks : List CK) (a : AV) (L : List (List AV)) : Prop := LstP h ks a L ∧ ∀ b o eo n cap, a = .slice b o eo n cap → 0 < n → ky A 0 ≤ b ∧ b < ky B 0
section
variable {A B : Nat} {h h' : Heap} {ks : List CK} {a : AV} {L : List (List AV)}
theorem LstI.p (hl : LstI A B h ks a L) : LstP h ks a L := hl.1
theorem LstI.move (hl : LstI A B h ks a L) (he : EqI A B h h') : LstI A B h' ks a L := by
  refine ⟨⟨hl.1.1, hl.1.2.1, ?_⟩, hl.2⟩
  rcases hl.1.2.2 with c | ⟨b, o, eo, cap, e, r⟩
  · exact .inl c
  · refine .inr ⟨b, o, eo, cap, e, fun hp => ?_⟩
    obtain ⟨h1, h2⟩ := hl.2 b o eo _ cap e hp
    rw [he b h1 h2]; exact r hp
theorem LstI.wide {A' B' : Nat} (hl : LstI A B h ks a L) (hA : A' ≤ A) (hB : B ≤ B') : LstI A' B' h ks a L :=
  ⟨hl.1, fun b o eo n cap e hp => let ⟨h1, h2⟩ := hl.2 b o eo n cap e hp; ⟨Nat.le_trans (ky_mono hA) h1, Nat.lt_of_lt_of_le h2 (ky_mono hB)⟩⟩
theorem ky_zero : ky 0 0 = 0 := by unfold ky; rfl
/-- what a state holds lies below its frames -/
theorem LstP.below {F : Nat} (hw : Wf ⟨h, F⟩) (hl : LstP h ks a L) (hk : 0 < ks.length) : LstI 0 F h ks a L := by
  refine ⟨hl, fun b o eo n cap e hp => ⟨by rw [ky_zero]; exact Nat.zero_le _, ?_⟩⟩
  rcases hl.2.2 with ⟨c | c, _⟩ | ⟨b', o', eo', cap', e', r⟩
  · rw [e] at c; cases c
  · rw [e] at c; cases c
  · rw [e] at e'
    cases e'
    exact rd_low hw (r hp)
/-- an element -/
theorem LstI.at (hl : LstI A B h ks a L) {i : Nat} (hi : i < L.length) : ∃ b o eo cap, a = .slice b o eo L.length cap ∧ ky A 0 ≤ b ∧ b < ky B 0 ∧ rdAB (hget h b) (o + i * ks.length) ks.length = some L[i] ∧
    ∀ off m, off + m ≤ ks.length → rdAB (hget h b) (o + i * ks.length + off) m = some ((L[i].drop off).take m) := by
  obtain ⟨b, o, eo, cap, e, h1, h2⟩ := hl.1.at hi
  obtain ⟨h3, h4⟩ := hl.2 _ _ _ _ _ e (by omega)
  exact ⟨b, o, eo, cap, e, h3, h4, h1, h2⟩
end
/-- no name of another frame is one of this -/
theorem off_ne {A B F b : Nat} (h1 : ky A 0 ≤ b) (h2 : b < ky B 0) (hf : F < A ∨ B ≤ F) : ∀ c, c ≤ 1267650600228229401496703205375 → (b = ky F c) = False := fun c hc => eq_false (by
  have h3 := ky_le F c
  have h4 := ky_next F c hc
  rcases hf with hf | hf
  · have : ky (F + 1) 0 ≤ ky A 0 := ky_mono hf
    omega
  · have := ky_mono hf
    omega)
end Go.Ai

/-! A law in the memory that it finds, with package-level variables. Contracts without them serve with them. -/
namespace Go.Ai
open Go Go.RowKit
variable {P : Program} {G : Glob}
theorem snd_glob {f : FuncId} {args : List AV} {s : St} {outs : List Out} (h : Snd P [] f args s outs) : Snd P G f args s outs := by
  intro base ρ w vs rv rm
  exact h base ρ w vs rv ⟨rm.rh, fun g l h => by simp [gget] at h, rm.bs, rm.hi⟩
theorem sndQ_glob {f : FuncId} {args : List AV} {s : St} {Q : Out → Prop} (h : SndQ P [] f args s Q) : SndQ P G f args s Q := let ⟨o, h1, h2⟩ := h; ⟨o, snd_glob h1, h2⟩
theorem rm_absG (w : World) (rg : RG G w.heap.size w) : RM G w.heap.size (rhoW w) (absS w) w := let r := rm_abs w; ⟨r.rh, rg, r.bs, r.hi⟩
theorem rg_nil (base : Nat) (w : World) : RG [] base w := fun g l h => by simp [gget] at h
theorem rg_cons {base g : Nat} {w : World} {l : List AV} {name : String} {vs : List Value} (hb : w.heap.size ≤ base) (hn : P.globalNamed name = some g) (hv : w.var? P name = some vs.toArray) (hl : vs.length = l.length) (hr : ∀ (i : Nat) (a : AV), l[i]? = some a → ∃ v, vs[i]? = some v ∧ RV (fun _ => none) a v) (rg : RG G base w) : RG ((g, l) :: G) base w := by
  intro g' l' hg
  simp only [gget] at hg
  split at hg
  · rename_i he
    have he := Nat.eq_of_beq_eq_true he
    subst he
    cases hg
    unfold World.var? at hv
    rw [hn] at hv
    simp only [Option.bind_some] at hv
    cases hc : w.heap[g]? with
    | none => rw [hc] at hv; cases hv
    | some ob =>
      rw [hc] at hv
      cases ob with
      | cells c ty fz =>
        simp only [Option.some.injEq] at hv
        subst hv
        exact ⟨Nat.lt_of_lt_of_le (Array.getElem?_eq_some_iff.1 hc).1 hb, _, ty, fz, rfl, by simp [hl], fun i a ha => by simpa using hr i a ha⟩
      | _ => cases hv
  · exact rg g' l' hg
/-- A LAW IN THE MEMORY THAT IT FINDS: it is only read. -/
theorem calls_absG {f : FuncId} {fn : Func} {c : Code} (hn : NoNum P) (hf : P.funcs[f]? = some fn) (hb : fn.body = some c) {args : List AV} {w : World} {vs : List Value} {Q : Out → Prop} (rg : RG G w.heap.size w) (rv : RVs (rhoW w) args vs) (h : SndQ P G f args (absS w) Q)
    (hq : ∀ o, Q o → ∃ s', o = .val (.bool true) s') : Calls P f vs.toArray w fun e w' => e = .returned (.bool true) ∧ Keeps (fun _ => False) w w' := by
  obtain ⟨outs, h1, h2⟩ := h
  have := h1 w.heap.size (rhoW w) w vs rv (rm_absG w rg)
  rw [callFunc_enter hn hf hb] at this
  refine Calls.mono (this : Calls P f vs.toArray w _) ?_
  have keep : ∀ {ρ' : Map} {s' : St} {w' : World}, Adv w.heap.size (fun _ => False) (rhoW w) (absS w) w ρ' s' w' → Keeps (fun _ => False) w w' := fun h =>
    ⟨h.st.keeps.os, h.st.keeps.tape, h.st.keeps.output, h.st.keeps.size, fun b hb _ => h.st.keeps.block b hb (by
      rintro ⟨i, e, ⟨ab, hi, hm⟩, _⟩
      have hi : hget (absH w) i = some ab := hi
      rw [hget_absH] at hi
      cases ho : w.heap[i]? with
      | none => rw [ho] at hi; cases hi
      | some o =>
        rw [ho] at hi
        simp only [Option.bind_some] at hi
        cases o with
        | cells c ty fz =>
          simp only [absO, Option.some.injEq] at hi
          subst hi
          exact hm
        | _ => simp [absO] at hi)⟩
  rintro e w' ⟨ρ', ⟨v', s'', u, g1, g2, g3, g4⟩ | ⟨v', s'', u, g1, g2, g3, g4⟩⟩
  · obtain ⟨s0, hs⟩ := hq _ (h2 _ g1)
    cases hs
    simp only [RV] at g3
    subst g3
    exact ⟨g2, keep g4⟩
  · obtain ⟨s0, hs⟩ := hq _ (h2 _ g1)
    cases hs
/-- A call of the shelf behind which all that was there is as it was; it answers no place. -/
theorem snd_below (hn : NoNum P) {f : FuncId} {fn : Func} {c : Code} (hf : P.funcs[f]? = some fn) (hb : fn.body = some c) {args : List AV} {a : AV} {u : Value} {s : St} (ha : ∀ ρ, RV ρ a u)
    (hc : ∀ base ρ w vs, RVs ρ args vs → RM G base ρ s w → Calls P f vs.toArray w fun e w' => e = .returned u ∧ Below w.heap.size w w') : Snd P G f args s [.val a s] := by
  intro base ρ w vs rv rm
  rw [callFunc_enter hn hf hb]
  refine Calls.mono (hc base ρ w vs rv rm) ?_
  rintro x w' ⟨rfl, h⟩
  exact ⟨ρ, .inl ⟨a, s, u, List.mem_singleton.2 rfl, rfl, ha ρ, rm.keeps ⟨h.os, h.tape, h.output, h.size, fun b hb _ => h.block b hb⟩⟩⟩
end Go.Ai

/-! strings.Join of a slice of texts. -/
namespace Go.Ai
open Go Go.RowKit
variable {P : Program} {G : Glob}
def tL (ss : List (List UInt8)) : List (List AV) := ss.map fun s => [AV.str s]
theorem tL_len (ss : List (List UInt8)) : (tL ss).length = ss.length := by simp [tL]
theorem tL_flat (ss : List (List UInt8)) : (tL ss).flatten = ss.map AV.str := by
  induction ss with
  | nil => rfl
  | cons s ss ih => simp only [tL, List.map_cons, List.flatten_cons] at *; rw [ih]; rfl
theorem rvs_str {ρ : Map} : ∀ {ss : List (List UInt8)} {vs : List Value}, RVs ρ (ss.map AV.str) vs → vs = ss.map fun s => Value.string ⟨s.toArray⟩
  | [], vs, h => by simpa [RVs] using h
  | s :: ss, vs, h => by
    simp only [List.map_cons, RVs] at h
    obtain ⟨v, r, h1, h2, rfl⟩ := h
    simp only [RV] at h1
    rw [h1, rvs_str h2]
    rfl
def JoinC (P : Program) (f : FuncId) : Prop := ∀ (bk o c : Nat) (xs : List ByteArray) (sep : ByteArray) (w : World), (∀ (j : Nat) x, xs[j]? = some x → w.cell? ⟨bk, o + j, none⟩ = some (.string x)) → bk < w.heap.size → xs.length ≤ 140737488355328 → xs.length ≤ c →
  (Lib.join (xs.map (·.data.toList)) sep.data.toList).length ≤ 140737488355328 → Calls P f #[.slice (some ⟨bk, o, none⟩) xs.length c, .string sep] w fun e w' => e = .returned (.string ⟨(Lib.join (xs.map (·.data.toList)) sep.data.toList).toArray⟩) ∧ Below w.heap.size w w'
theorem snd_join (hn : NoNum P) {f : FuncId} {fn : Func} {c : Code} (hf : P.funcs[f]? = some fn) (hb : fn.body = some c) (hc : JoinC P f) {h : Heap} {F : Nat} {a : AV} {ss : List (List UInt8)} {sep : List UInt8} (hl : LstP h ksT a (tL ss)) (hp : 0 < ss.length) (hm : ss.length ≤ 1000000) (hj : (Lib.join ss sep).length ≤ 1000000000) :
    Snd P G f [a, .str sep] ⟨h, F⟩ [.val (.str (Lib.join ss sep)) ⟨h, F⟩] := by
  refine snd_below hn hf hb (u := .string ⟨(Lib.join ss sep).toArray⟩) (fun ρ => rfl) ?_
  rintro base ρ w vs ⟨u1, us, r1, ⟨u2, us2, r2, r3, rfl⟩, rfl⟩ rm
  simp only [RV] at r2
  simp only [RVs] at r3
  subst r2 r3
  rcases hl.2.2 with ⟨_, e⟩ | ⟨b, o, eo, cap, rfl, hr⟩
  · have := congrArg List.length e
    rw [tL_len] at this
    rw [List.length_nil] at this; omega
  have hr := hr (by rw [tL_len]; exact hp)
  rw [tL_flat, ← readCells_eq, tL_len, show ksT.length = 1 from rfl, Nat.mul_one] at hr
  have bigN : ∀ e : Ent, ρ b = some e → e.b < w.heap.size ∧ ∀ (j : Nat) (x : ByteArray), (ss.map fun s => (⟨s.toArray⟩ : ByteArray))[j]? = some x → w.cell? ⟨e.b, e.o + o + j, none⟩ = some (.string x) := fun e he => by
    obtain ⟨hl1, vs, rs, hs⟩ := readCells_rv rm.rh hr he
    have hvs := rvs_str rs
    subst hvs
    have hcell : ∀ (j : Nat) (x : ByteArray), (ss.map fun s => (⟨s.toArray⟩ : ByteArray))[j]? = some x → w.cell? ⟨e.b, e.o + o + j, none⟩ = some (.string x) := fun j x hx => by
      have := hs j (.string x) (by
        rw [List.getElem?_map] at hx ⊢
        cases hq : ss[j]? with
        | none => rw [hq] at hx; cases hx
        | some s => rw [hq] at hx; cases hx; rfl)
      rw [add_none] at this
      exact this
    refine ⟨?_, hcell⟩
    obtain ⟨s, hs0⟩ : ∃ s, ss[0]? = some s := ⟨ss[0], by simp⟩
    have := hcell 0 ⟨s.toArray⟩ (by rw [List.getElem?_map, hs0]; rfl)
    unfold World.cell? at this
    rcases Nat.lt_or_ge e.b w.heap.size with hlt | hge
    · exact hlt
    · rw [Array.getElem?_eq_none hge] at this; cases this
  have hmm : ((ss.map fun s => (⟨s.toArray⟩ : ByteArray)).map fun x => x.data.toList) = ss := by
    rw [List.map_map]; exact List.map_id' _
  have go : ∀ (e : Ent) (o' cp : Nat), ρ b = some e → o' = o → ss.length ≤ cp → Calls P f #[.slice (some ⟨e.b, e.o + o', none⟩) (tL ss).length cp, .string ⟨sep.toArray⟩] w fun x w' => x = .returned (.string ⟨(Lib.join ss sep).toArray⟩) ∧ Below w.heap.size w w' := fun e o' cp he ho hcp => by
    subst ho
    obtain ⟨h1, h2⟩ := bigN e he
    have := hc e.b (e.o + o') cp (ss.map fun s => (⟨s.toArray⟩ : ByteArray)) ⟨sep.toArray⟩ w h2 h1 (by rw [List.length_map]; omega) (by rw [List.length_map]; omega) (by rw [hmm]; exact Nat.le_trans hj (by decide))
    rw [hmm, List.length_map] at this
    rw [tL_len]
    exact this
  cases cap with
  | some cp =>
    obtain ⟨e, he, o', q1, q2, rfl⟩ := r1
    rw [tL_len] at q1
    exact go e o' cp he (q2 (by omega)) q1
  | none =>
    obtain ⟨e, he, o', q1, q2, rfl⟩ := r1
    rw [tL_len] at q1
    exact go e o' (e.k - eo) he (q2 (by omega)) (by omega)
end Go.Ai

/-! Rows of bytes that grow; texts of them. -/
namespace Go.Ai
open Go
variable {P : Program}
noncomputable def byCells (s : List UInt8) : List AV := s.map fun b => .int .u8 b.toNat
theorem byCells_len (s : List UInt8) : (byCells s).length = s.length := by simp [byCells]
theorem byCells_app (a b : List UInt8) : byCells (a ++ b) = byCells a ++ byCells b := by simp [byCells]
theorem byCells_cell : ∀ s : List UInt8, allCell (byCells s) = true
  | [] => rfl
  | b :: s => by
    have := byCells_cell s
    simp only [byCells, List.map_cons, allCell, isCell] at this ⊢
    exact this
theorem bsA_by : ∀ s : List UInt8, bsA (byCells s) = some s
  | [] => rfl
  | b :: s => by
    have := bsA_by s
    simp only [byCells, List.map_cons, bsA] at this ⊢
    rw [this]
    simp
theorem tagM_self (a : Nat) : tagM a a = a := by unfold tagM; simp
theorem rdAB_rowT (tg : Nat) (l : List AV) (es off n : Nat) : rdAB (some (mkRowT tg l es)) off n = rdAB (some (mkRow l es)) off n := rfl
theorem src_str {h : Heap} (x : List UInt8) : srcCells h 1 (.str x) = some (x.length, byCells x) := by
  simp only [srcCells]; rfl
section
variable {t e t2 by' key : Nat} {d2 : TypeDesc} {s : St} {b : AV} {x : List UInt8}
theorem app_nilB (hu : P.underlying t = some (.slice e)) (h2 : P.underlying t2 = some d2) (hd : d2 = .string ∨ ∃ e2, d2 = .slice e2) (hs : sizeT P e = some 1) (hb : bytesT P e = some by') (hz : zeroOk P e 1 by' = true)
    (hsrc : srcCells s.h 1 b = some (x.length, byCells x)) (hp : 0 < x.length) (hn : x.length ≤ 400000000) (hby : by' ≤ 1000) : appendA P t t2 key s .nils b = some (.slice key 0 0 x.length none, s.upd key (mkRowT (tagA P e) (byCells x) 1)) := by
  obtain ⟨n, hnx⟩ : ∃ k, x.length = k + 1 := ⟨x.length - 1, by omega⟩
  rw [hnx] at hsrc ⊢
  have hble : Nat.ble ((2 * (n + 1) + 1024) * by') 281474976710656 = true := by
    rw [Nat.ble_eq]; exact Nat.le_trans (Nat.mul_le_mul (by omega : 2 * (n + 1) + 1024 ≤ 1000001024) hby) (by decide)
  rcases hd with rfl | ⟨e2, rfl⟩ <;> simp only [appendA, hu, h2, hs, hb, hz, hsrc, hble, rowT_mk]
theorem app_openB (hu : P.underlying t = some (.slice e)) (h2 : P.underlying t2 = some d2) (hd : d2 = .string ∨ ∃ e2, d2 = .slice e2) (hs : sizeT P e = some 1) (hb : bytesT P e = some by') (hz : zeroOk P e 1 by' = true)
    {id : Nat} {l : List UInt8} (hsrc : srcCells s.h 1 b = some (x.length, byCells x)) (hp : 0 < x.length) (hid : hget s.h id = some (mkRowT (tagA P e) (byCells l) 1)) (hn : l.length + x.length ≤ 400000000) (hby : by' ≤ 1000) :
    appendA P t t2 key s (.slice id 0 0 l.length none) b = some (.slice key 0 0 (l.length + x.length) none, ⟨hset (hset s.h id .dead) key (mkRowT (tagA P e) (byCells (l ++ x)) 1), s.fc⟩) := by
  obtain ⟨n, hnx⟩ : ∃ k, x.length = k + 1 := ⟨x.length - 1, by omega⟩
  rw [hnx] at hsrc hn ⊢
  have hble : Nat.ble ((2 * (l.length + (n + 1)) + 1024) * by') 281474976710656 = true := by
    rw [Nat.ble_eq]; exact Nat.le_trans (Nat.mul_le_mul (by omega : 2 * (l.length + (n + 1)) + 1024 ≤ 1000001024) hby) (by decide)
  have hfit : Nat.ble (0 + (l.length + (n + 1)) * 1) (byCells l).length = false := by
    cases hq : Nat.ble (0 + (l.length + (n + 1)) * 1) (byCells l).length with
    | false => rfl
    | true => have := Nat.le_of_ble_eq_true hq; rw [byCells_len] at this; omega
  have hrd : readCells s.h id 0 (l.length * 1) = some (byCells l) := by
    rw [readCells_eq, hid, rdAB_rowT, rdAB_row, if_pos (by rw [byCells_len]; omega), List.drop_zero, List.take_of_length_le (by rw [byCells_len]; omega)]
  have hbb : (Nat.beq 1 1 && Nat.beq 0 (0 * 1) && allCell (byCells x)) = true := by rw [byCells_cell]; rfl
  rw [byCells_app]
  rcases hd with rfl | ⟨e2, rfl⟩
  · simp only [appendA, hu, h2, hs, hb, hz, hsrc, hble, hid]
    simp only [mkRowT, hfit, hbb, hrd, tagM_self, rowT_mk, St.upd_eq]
  · simp only [appendA, hu, h2, hs, hb, hz, hsrc, hble, hid]
    simp only [mkRowT, hfit, hbb, hrd, tagM_self, rowT_mk, St.upd_eq]
/-- a text out of a row of bytes; the row is gone behind it -/
theorem us_row {t1 pe : TypeId} {id : Nat} {l : List UInt8} (h1 : P.underlying t1 = some (.pointer pe)) (hpe : P.underlying pe = some (.int .u8)) (he : P.underlying e = some (.int .u8)) (hs : sizeT P e = some 1) (hid : hget s.h id = some (mkRowT (tagA P e) (byCells l) 1)) (hp : 0 < l.length) (hn : l.length ≤ 1073741824) :
    aUS P s [t1, t2] (some [.ptr id 0, .int .i64 (l.length : Int)]) = some [.val (.str l) ⟨hset s.h id .dead, s.fc⟩] := by
  obtain ⟨n, hnx⟩ : ∃ k, l.length = k + 1 := ⟨l.length - 1, by omega⟩
  have htg : tagA P e = e + 1 := by unfold tagA; rw [he]
  have hrd : readCells s.h id 0 (n + 1) = some (byCells l) := by
    rw [readCells_eq, hid, rdAB_rowT, rdAB_row, if_pos (by rw [byCells_len]; omega), List.drop_zero, List.take_of_length_le (by rw [byCells_len]; omega)]
  have hle : Nat.ble (n + 1) 1073741824 = true := Nat.ble_eq_true_of_le (by omega)
  rw [htg] at hid
  rw [hnx]
  show aUS1 P s id 0 (n + 1) (P.underlying t1) = _
  simp only [aUS1, h1, hid, mkRowT, aUS2, he, hpe, hs, hle, hrd, aUS3, bsA_by, aUS4, St.upd_eq]
end
end Go.Ai

/-! A strings.Builder in the abstract memory: its copy check (by the shelf), its bytes. -/
namespace Go.Ai
open Go Go.RowKit
variable {P : Program} {G : Glob}
noncomputable def bRowT (tB : TypeId) (p buf : AV) : AB := mkRowT (tB + 1) [p, buf] 0
theorem bRowT_eq (tB : TypeId) (p buf : AV) : mkRowT (tB + 1) [p, buf] 0 = bRowT tB p buf := rfl
theorem rd_bld0 {tB : TypeId} {p buf : AV} : rdAB (some (bRowT tB p buf)) 0 1 = some [p] := by rw [bRowT, rdAB_rowT, rdAB_row]; rfl
theorem rd_bld1 {tB : TypeId} {p buf : AV} : rdAB (some (bRowT tB p buf)) 1 1 = some [buf] := by rw [bRowT, rdAB_rowT, rdAB_row]; rfl
theorem wrAB_rowT (h : Heap) (id tg : Nat) (l : List AV) (es off : Nat) (vs : List AV) : wrAB h id (some (mkRowT tg l es)) off vs = if off + vs.length ≤ l.length ∧ allCell vs = true then some (hset h id (mkRowT tg (ovr l off vs) es)) else none := by
  simp only [mkRowT, wrAB]
  by_cases h1 : off + vs.length ≤ l.length
  · rw [Nat.ble_eq_true_of_le h1, Bool.true_and]
    cases h2 : allCell vs with
    | true => simp only [h1, and_self, if_true]; rw [T.setList_ovr _ _ _ h1, ovr_length]
    | false => simp
  · cases hb : Nat.ble (off + vs.length) l.length with
    | true => exact absurd (Nat.le_of_ble_eq_true hb) h1
    | false => simp [h1]
theorem wr_bld1 {h : Heap} {id : Nat} {tB : TypeId} {p buf v : AV} (hc : isCell v = true) : wrAB h id (some (bRowT tB p buf)) 1 [v] = some (hset h id (bRowT tB p v)) := by
  rw [bRowT, wrAB_rowT, if_pos ⟨by simp, by simp [allCell, hc]⟩]; rfl
def CcFresh (P : Program) (f : FuncId) (tB : TypeId) : Prop := ∀ (b : Nat) (w : World), w.cell? ⟨b, 0, none⟩ = some (.pointer none) → w.shape? b = some (tB, 2) → w.frozen? ⟨b, 0, none⟩ = false →
  Calls P f #[.pointer (some ⟨b, 0, none⟩)] w fun e w' => e = .returned (.tuple #[]) ∧ w' = w.setCell ⟨b, 0, none⟩ (.pointer (some ⟨b, 0, none⟩))
def CcUsed (P : Program) (f : FuncId) : Prop := ∀ (b : Nat) (w : World), w.cell? ⟨b, 0, none⟩ = some (.pointer (some ⟨b, 0, none⟩)) →
  Calls P f #[.pointer (some ⟨b, 0, none⟩)] w fun e w' => e = .returned (.tuple #[]) ∧ w' = w
theorem bld_in {base : Nat} {ρ : Map} {h : Heap} {F : Nat} {w : World} (rm : RM G base ρ ⟨h, F⟩ w) {k : Nat} {tB : TypeId} {p buf : AV} (hg : hget h k = some (bRowT tB p buf)) {e : Ent} (he : ρ k = some e) :
    ∃ (c : Array Value) (lo hi : Nat), w.heap[e.b]? = some (.cells c tB (lo, hi)) ∧ e.o = 0 ∧ c.size = 2 ∧ (c.size ≤ lo ∨ hi ≤ lo) ∧ (∃ u, c[0]? = some u ∧ RV ρ p u) ∧ ∃ v, c[1]? = some v ∧ RV ρ buf v := by
  obtain ⟨e', ob, g1, g2, g3, c, ty, lo, hi, k4, kt, k5, k6, k7, k8, k9⟩ := rm.rh.blk k _ hg (by unfold bRowT mkRowT; simp)
  rw [he] at g1; cases g1
  subst k4
  obtain ⟨rfl, h0⟩ := kt tB rfl
  obtain ⟨ho, hs⟩ := h0 rfl
  have hs : c.size = 2 := hs
  refine ⟨c, lo, hi, g3, ho, hs, k8, ?_, ?_⟩
  · obtain ⟨u, hu, ru⟩ := k9 0 (by simp) p (by rw [T.get_setList]; rfl)
    exact ⟨u, by rw [ho] at hu; exact hu, ru⟩
  · obtain ⟨u, hu, ru⟩ := k9 1 (by simp) buf (by rw [T.get_setList]; rfl)
    exact ⟨u, by rw [ho] at hu; exact hu, ru⟩
theorem snd_ccUsed (hn : NoNum P) {f : FuncId} {fn : Func} {c : Code} (hf : P.funcs[f]? = some fn) (hb : fn.body = some c) (hc : CcUsed P f) {h : Heap} {F k : Nat} {tB : TypeId} {buf : AV} (hg : hget h k = some (bRowT tB (.ptr k 0) buf)) :
    Snd P G f [.ptr k 0] ⟨h, F⟩ [.val (.tup []) ⟨h, F⟩] := by
  intro base ρ w vs rv rm
  obtain ⟨v, vs', ⟨e, he, rfl⟩, rfl, rfl⟩ := rv
  obtain ⟨ca, lo, hi, hob, ho, hs, hfr, ⟨u, c0, ru⟩, v, c1, rv⟩ := bld_in rm hg he
  obtain ⟨e', he', rfl⟩ := ru
  rw [he] at he'; cases he'
  rw [ho] at c0
  have hcell : w.cell? ⟨e.b, 0, none⟩ = some (.pointer (some ⟨e.b, 0, none⟩)) := by unfold World.cell?; rw [hob]; exact c0
  rw [callFunc_enter hn hf hb, ho]
  refine Calls.mono (hc e.b w hcell) ?_
  rintro x w' ⟨rfl, rfl⟩
  exact ⟨ρ, .inl ⟨.tup [], _, .tuple #[], List.mem_singleton.2 rfl, rfl, ⟨[], rfl, rfl⟩, rm.keeps (Keeps.refl _ _)⟩⟩
theorem snd_ccFresh (hn : NoNum P) {f : FuncId} {fn : Func} {c : Code} (hf : P.funcs[f]? = some fn) (hb : fn.body = some c) {tB : TypeId} (hc : CcFresh P f tB) {h : Heap} {F k : Nat} {buf : AV} (hg : hget h k = some (bRowT tB .nilp buf)) :
    Snd P G f [.ptr k 0] ⟨h, F⟩ [.val (.tup []) ⟨hset h k (bRowT tB (.ptr k 0) buf), F⟩] := by
  intro base ρ w vs rv rm
  obtain ⟨v, vs', ⟨e, he, rfl⟩, rfl, rfl⟩ := rv
  obtain ⟨ca, lo, hi, hob, ho, hs, hfr, ⟨u, c0, ru⟩, v, c1, rv⟩ := bld_in rm hg he
  simp only [RV] at ru
  subst ru
  have hcell : w.cell? ⟨e.b, 0, none⟩ = some (.pointer none) := by unfold World.cell?; rw [hob]; exact c0
  have hshape : w.shape? e.b = some (tB, 2) := by unfold World.shape?; rw [hob, ← hs]
  have hfz : w.frozen? ⟨e.b, 0, none⟩ = false := by
    unfold World.frozen?
    rw [hob]
    simp only
    rcases hfr with h1 | h1
    · have : ¬ lo ≤ 0 := by omega
      simp [this]
    · by_cases h2 : lo ≤ 0
      · have : ¬ 0 < hi := by omega
        simp [this]
      · simp [h2]
  rw [callFunc_enter hn hf hb, ho]
  refine Calls.mono (hc e.b w hcell hshape hfz) ?_
  rintro x w' ⟨rfl, rfl⟩
  have hat : (w.setCell ⟨e.b, 0, none⟩ (.pointer (some ⟨e.b, 0, none⟩))).heap[e.b]? = some (.cells (ca.setIfInBounds 0 (.pointer (some ⟨e.b, 0, none⟩))) tB (lo, hi)) := by
    simp only [World.setCell, Array.getElem?_modify, if_true, hob, Option.map_some]
    rfl
  have hst : Stp ρ base (hget h) w ρ (hget (hset h k (bRowT tB (.ptr k 0) buf))) (w.setCell ⟨e.b, 0, none⟩ (.pointer (some ⟨e.b, 0, none⟩))) := by
    refine Stp.upd rm.rh hg (by unfold bRowT mkRowT; simp) (by unfold bRowT mkRowT; simp) he rfl rfl rfl (by simp [World.setCell]) hat (fun b hb => Below.heap_setCell w ⟨e.b, 0, none⟩ _ b hb) ?_
    refine ⟨_, tB, lo, hi, rfl, fun u hu => ⟨by injection hu, fun _ => ⟨ho, by rw [Array.size_setIfInBounds, hs]; rfl⟩⟩, ?_, ?_, fun h0 => absurd h0 (by decide), ?_, fun i hi' av hav => ?_⟩
    · rw [Array.size_setIfInBounds, hs, ho]; exact Nat.le_refl _
    · rw [Array.size_setIfInBounds, hs, ho]; simp
    · rw [Array.size_setIfInBounds]; exact hfr
    · have hi2 : i < 2 := hi'
      rw [T.get_setList] at hav
      rw [ho, Nat.zero_add]
      rcases (show i = 0 ∨ i = 1 by omega) with rfl | rfl
      · have hav : some (AV.ptr k 0) = some av := hav
        cases hav
        refine ⟨.pointer (some ⟨e.b, 0, none⟩), ?_, ⟨e, he, by rw [ho]⟩⟩
        rw [Array.getElem?_setIfInBounds, if_pos rfl, if_pos (by omega)]
      · have hav : some buf = some av := hav
        cases hav
        exact ⟨v, by rw [Array.getElem?_setIfInBounds, if_neg (by decide)]; exact c1, rv⟩
  exact ⟨ρ, .inl ⟨.tup [], _, .tuple #[], List.mem_singleton.2 rfl, rfl, ⟨[], rfl, rfl⟩, ⟨hst, Nat.le_refl _, fun _ _ _ => rfl, rm.hi⟩⟩⟩
def Buf (P : Program) (h : Heap) (e A B : Nat) (buf : AV) (l : List UInt8) : Prop := (buf = .nils ∧ l = []) ∨ (0 < l.length ∧ ∃ k, buf = .slice k 0 0 l.length none ∧ hget h k = some (mkRowT (tagA P e) (byCells l) 1) ∧ ky A 0 ≤ k ∧ k < ky B 0)
/-- what a builder at a place holds; its bytes lie in the frames between A and B -/
def Bld (P : Program) (h : Heap) (tB eB b A B : Nat) (l : List UInt8) : Prop :=
  ∃ p buf, hget h b = some (bRowT tB p buf) ∧ (p = .nilp ∨ p = .ptr b 0) ∧ Buf P h eB A B buf l
/-- but for the builder and what lies between A and B the memory is as it was -/
def But (b A B : Nat) (h h' : Heap) : Prop := ∀ i, i ≠ b → (i < ky A 0 ∨ ky B 0 ≤ i) → hget h' i = hget h i
theorem But.refl (b A B : Nat) (h : Heap) : But b A B h h := fun _ _ _ => rfl
theorem But.trans {b A B : Nat} {h1 h2 h3 : Heap} (x : But b A B h1 h2) (y : But b A B h2 h3) : But b A B h1 h3 := fun i h i' => (y i h i').trans (x i h i')
section
variable {t e t2 by' key A B B' f : Nat} {d2 : TypeDesc} {h : Heap} {b buf : AV} {l x : List UInt8}
theorem app_none (hu : P.underlying t = some (.slice e)) (h2 : P.underlying t2 = some d2) (hd : d2 = .string ∨ ∃ e2, d2 = .slice e2) (hs : sizeT P e = some 1) (hb : bytesT P e = some by') (hz : zeroOk P e 1 by' = true)
    (hsrc : srcCells h 1 b = some (0, [])) (hn : l.length ≤ 400000000) (hby : by' ≤ 1000) (hbuf : Buf P h e A B buf l) : appendA P t t2 key ⟨h, f⟩ buf b = some (buf, ⟨h, f⟩) := by
  have hble : Nat.ble ((2 * (l.length + 0) + 1024) * by') 281474976710656 = true := by
    rw [Nat.ble_eq]; exact Nat.le_trans (Nat.mul_le_mul (by omega : 2 * (l.length + 0) + 1024 ≤ 1000001024) hby) (by decide)
  have hble0 : Nat.ble ((2 * 0 + 1024) * by') 281474976710656 = true := by
    rw [Nat.ble_eq]; exact Nat.le_trans (Nat.mul_le_mul (by omega : 2 * 0 + 1024 ≤ 1000001024) hby) (by decide)
  rcases hbuf with ⟨rfl, rfl⟩ | ⟨hp, k, rfl, hg, _, _⟩
  · rcases hd with rfl | ⟨e2, rfl⟩ <;> simp only [appendA, hu, h2, hs, hb, hz, hsrc, hble0]
  · rcases hd with rfl | ⟨e2, rfl⟩ <;> simp only [appendA, hu, h2, hs, hb, hz, hsrc, hble]
theorem app_buf (hu : P.underlying t = some (.slice e)) (h2 : P.underlying t2 = some d2) (hd : d2 = .string ∨ ∃ e2, d2 = .slice e2) (hs : sizeT P e = some 1) (hb : bytesT P e = some by') (hz : zeroOk P e 1 by' = true)
    (hsrc : srcCells h 1 b = some (x.length, byCells x)) (hn : l.length + x.length ≤ 400000000) (hby : by' ≤ 1000) (hbuf : Buf P h e A B buf l) (hk1 : ky A 0 ≤ key) (hk2 : key < ky B' 0) (hB : B ≤ B') :
    ∃ buf' h3, appendA P t t2 key ⟨h, f⟩ buf b = some (buf', ⟨h3, f⟩) ∧ isCell buf' = true ∧ (∀ i, (i < ky A 0 ∨ ky B' 0 ≤ i) → hget h3 i = hget h i) ∧ Buf P h3 e A B' buf' (l ++ x) := by
  have hBB := ky_mono hB
  rcases Nat.eq_zero_or_pos x.length with hx | hx
  · have e0 := List.length_eq_zero_iff.1 hx
    subst e0
    refine ⟨buf, h, app_none hu h2 hd hs hb hz hsrc (by omega) hby hbuf, ?_, fun _ _ => rfl, ?_⟩
    · rcases hbuf with ⟨rfl, _⟩ | ⟨_, k, rfl, _⟩ <;> rfl
    · rw [List.append_nil]
      rcases hbuf with h0 | ⟨hp, k, h1, h2, h3, h4⟩
      · exact .inl h0
      · exact .inr ⟨hp, k, h1, h2, h3, by omega⟩
  · rcases hbuf with ⟨rfl, rfl⟩ | ⟨hp, k, rfl, hg, hk3, hk4⟩
    · refine ⟨_, hset h key (mkRowT (tagA P e) (byCells x) 1), (app_nilB (s := ⟨h, f⟩) hu h2 hd hs hb hz hsrc hx (by omega) hby).trans (by rw [St.upd_eq]; rfl), rfl, fun i hi => ?_, .inr ⟨hx, key, rfl, ?_, hk1, hk2⟩⟩
      · show hget (hset h key _) i = _
        rw [hget_hset, if_neg (by omega)]
      · show hget (hset h key _) key = _
        rw [hget_hset, if_pos rfl]; rfl
    · refine ⟨_, _, app_openB (s := ⟨h, f⟩) hu h2 hd hs hb hz hsrc hx hg hn hby, rfl, fun i hi => ?_, .inr ⟨by rw [List.length_append]; omega, key, by rw [List.length_append], ?_, hk1, hk2⟩⟩
      · rw [hget_hset, if_neg (by omega), hget_hset, if_neg (by omega)]
      · rw [hget_hset, if_pos rfl]
end
/-- bytes in a row of one's own: just made of one byte, or grown -/
def OutB (P : Program) (h : Heap) (e F c : Nat) (out : AV) (l : List UInt8) : Prop := ∃ cap, 0 < l.length ∧ out = .slice (ky F c) 0 0 l.length cap ∧ (cap = none ∨ (cap = some 1 ∧ l.length = 1)) ∧ hget h (ky F c) = some (mkRowT (tagA P e) (byCells l) 1)
theorem src_row {h : Heap} {k tg : Nat} {x : List UInt8} {cap : Option Nat} (hg : hget h k = some (mkRowT tg (byCells x) 1)) : srcCells h 1 (.slice k 0 0 x.length cap) = some (x.length, byCells x) := by
  cases hx : x.length with
  | zero => have := List.length_eq_zero_iff.1 hx; subst this; rfl
  | succ n =>
    simp only [srcCells]
    rw [readCells_eq, hg, rdAB_rowT, rdAB_row, if_pos (by rw [byCells_len, hx]; simp), List.drop_zero, List.take_of_length_le (by rw [byCells_len, hx]; simp)]
theorem OutB.move {h h' : Heap} {e F c : Nat} {out : AV} {l : List UInt8} (o : OutB P h e F c out l) (hg : hget h' (ky F c) = hget h (ky F c)) : OutB P h' e F c out l := let ⟨cap, h1, h2, h3, h4⟩ := o; ⟨cap, h1, h2, h3, hg.trans h4⟩
theorem app_out {t e t2 e2 by' key F c f : Nat} {h : Heap} {b out : AV} {l x : List UInt8} (hu : P.underlying t = some (.slice e)) (h2 : P.underlying t2 = some (.slice e2)) (hs : sizeT P e = some 1) (hb : bytesT P e = some by') (hz : zeroOk P e 1 by' = true)
    (hsrc : srcCells h 1 b = some (x.length, byCells x)) (hp : 0 < x.length) (hn : l.length + x.length ≤ 400000000) (hby : by' ≤ 1000) (ho : OutB P h e F c out l) :
    ∃ h3, appendA P t t2 key ⟨h, f⟩ out b = some (.slice key 0 0 (l ++ x).length none, ⟨h3, f⟩) ∧ hget h3 key = some (mkRowT (tagA P e) (byCells (l ++ x)) 1) ∧ ∀ i, i ≠ key → i ≠ ky F c → hget h3 i = hget h i := by
  obtain ⟨cap, hl, rfl, hcap, hg⟩ := ho
  rcases hcap with rfl | ⟨rfl, h1⟩
  · refine ⟨_, (app_openB (s := ⟨h, f⟩) hu h2 (.inr ⟨e2, rfl⟩) hs hb hz hsrc hp hg hn hby).trans (by rw [List.length_append]), by rw [hget_hset, if_pos rfl], fun i hi hj => ?_⟩
    rw [hget_hset, if_neg hi, hget_hset, if_neg hj]
  · obtain ⟨n, hnx⟩ : ∃ k, x.length = k + 1 := ⟨x.length - 1, by omega⟩
    refine ⟨hset h key (mkRowT (tagA P e) (byCells (l ++ x)) 1), ?_, by rw [hget_hset, if_pos rfl], fun i hi _ => by rw [hget_hset, if_neg hi]⟩
    rw [List.length_append, h1, byCells_app]
    rw [hnx] at hsrc hn ⊢
    have hble : Nat.ble ((2 * (1 + (n + 1)) + 1024) * by') 281474976710656 = true := by
      rw [Nat.ble_eq]; exact Nat.le_trans (Nat.mul_le_mul (by omega : 2 * (1 + (n + 1)) + 1024 ≤ 1000001024) hby) (by decide)
    have hrd : readCells h (ky F c) 0 (1 * 1) = some (byCells l) := by
      rw [readCells_eq, hg, rdAB_rowT, rdAB_row, if_pos (by rw [byCells_len, h1]; simp), List.drop_zero, List.take_of_length_le (by rw [byCells_len, h1]; simp)]
    have hfit : Nat.ble (0 + (1 + (n + 1)) * 1) (byCells l).length = false := by
      cases hq : Nat.ble (0 + (1 + (n + 1)) * 1) (byCells l).length with
      | false => rfl
      | true => have := Nat.le_of_ble_eq_true hq; rw [byCells_len, h1] at this; omega
    have hfit2 : Nat.ble (1 + (n + 1)) 1 = false := by
      cases hq : Nat.ble (1 + (n + 1)) 1 with
      | false => rfl
      | true => have := Nat.le_of_ble_eq_true hq; omega
    simp only [appendA, hu, h2, hs, hb, hz, hsrc, hble, hg]
    simp only [mkRowT, hfit, hfit2, hrd, rowT_mk, St.upd_eq]
theorem bytesOf_by : ∀ s : List UInt8, bytesOfA (byCells s) = some s
  | [] => rfl
  | b :: s => by
    have := bytesOf_by s
    have h256 : Nat.blt b.toNat 256 = true := by rw [Nat.blt_eq]; exact b.toNat_lt
    show (match Nat.blt b.toNat 256, bytesOfA (byCells s) with
      | true, some l => some (UInt8.ofNat b.toNat :: l)
      | _, _ => none) = some (b :: s)
    rw [this, h256]
    simp
theorem rCv_by {h : Heap} {src dst e k tg : Nat} {l : List UInt8} {cap : Option Nat} (hs : P.underlying src = some (.slice e)) (he : P.underlying e = some (.int .u8)) (hd : P.underlying dst = some .string) (hg : hget h k = some (mkRowT tg (byCells l) 1)) :
    rCv P h src dst (some (.slice k 0 0 l.length cap)) = some (.str l) := by
  have hb : isBytes P src dst = true := by simp only [isBytes, hs, hd, he]
  have hrd : readCells h k 0 l.length = some (byCells l) := by
    rw [readCells_eq, hg, rdAB_rowT, rdAB_row, if_pos (by rw [byCells_len]; simp), List.drop_zero, List.take_of_length_le (by rw [byCells_len]; simp)]
  simp only [rCv, hb, hrd, rCvB, bytesOf_by, someStr]
theorem nBS_by {e key : Nat} {c : Int} (hs : sizeT P e = some 1) (hz : zeroT P e = some (.int .u8 0)) : nBS P key 1 (some (.slice e)) (some [(0, .int .u8 c)]) = some (.slice key 0 0 1 (some 1), mkRowT (tagA P e) [.int .u8 c] 1) := by
  simp only [nBS, nBS2, hs, hz, repl, AV.cells, nBS3, rowT_mk, buildArr]
  rfl

end Go.Ai

/-! Operations on numbers without a sign, conversions. -/
namespace Go.Ai
open Go
variable {P : Program}
theorem wrapU_nat {n : Nat} (h : n < 18446744073709551616) : IntKind.u64.wrap (n : Int) = n := by rw [wrapU]; omega
theorem wrapI_nat {n : Nat} (h : n < 9223372036854775808) : IntKind.i64.wrap (n : Int) = n := wrapI_in (by omega) (by omega)
theorem wrapI32_in {n : Int} (h0 : 0 ≤ n) (h1 : n < 2147483648) : IntKind.i32.wrap n = n := by
  have : IntKind.i32.wrap n = if n % 4294967296 ≥ 2147483648 then n % 4294967296 - 4294967296 else n % 4294967296 := by simp [IntKind.wrap, IntKind.bits, IntKind.signed]
  rw [this]
  split <;> omega
theorem u64_rem {t : TypeId} {a b : Nat} (hb : 0 < b) : intOp P .rem t .u64 .u64 (a : Int) (b : Int) = some (.int .u64 ((a % b : Nat) : Int)) := by
  have h : (b : Int) ≠ 0 := by omega
  rw [intOp_rem h, remU, lock_eq, Int.ofNat_tmod]
theorem u64_quo {t : TypeId} {a b : Nat} (hb : 0 < b) (ha : a < 18446744073709551616) : intOp P .quo t .u64 .u64 (a : Int) (b : Int) = some (.int .u64 ((a / b : Nat) : Int)) := by
  have h : (b : Int) ≠ 0 := by omega
  have h2 : a / b < 18446744073709551616 := Nat.lt_of_le_of_lt (Nat.div_le_self a b) ha
  have h3 : (a : Int).tdiv (b : Int) = ((a / b : Nat) : Int) := (Int.ofNat_tdiv a b).symm
  have e : intOp P .quo t .u64 .u64 (a : Int) (b : Int) = some (.int .u64 (IntKind.u64.wrap ((a : Int).tdiv (b : Int)))) := by
    simp [intOp, binOp, runP, ofS, Op.intDiv, pure, show ¬ b = 0 by omega]
  rw [e, h3, wrapU_nat h2]
theorem u64_add {t : TypeId} {a b : Int} (h0 : 0 ≤ a + b) (h1 : a + b < 18446744073709551616) : intOp P .add t .u64 .u64 a b = some (.int .u64 (a + b)) := by
  have e : intOp P .add t .u64 .u64 a b = some (.int .u64 (IntKind.u64.wrap (a + b))) := by simp [intOp, binOp, runP, ofS, Op.intArith, pure]
  rw [e, wrapU, Int.emod_eq_of_lt h0 h1]
theorem rCv_in {h : Heap} {src dst : TypeId} {d : TypeDesc} {k k' : IntKind} {n : Int} (hd : P.underlying dst = some (.int k)) (hs : P.underlying src = some d) (hw : k.wrap n = n) : rCv P h src dst (some (.int k' n)) = some (.int k n) := by
  simp only [rCv, convA, hd, hs, hw]
theorem rCv_chr {h : Heap} {src dst : TypeId} {d : TypeDesc} {k : IntKind} {n : Int} (hd : P.underlying dst = some .string) (hs : P.underlying src = some d) : rCv P h src dst (some (.int k n)) = some (.str (Utf8.encode n).data.toList) := by
  simp only [rCv, convA, hd, hs]
theorem chr_fin : ∀ d : Fin 10, (Utf8.encode ((48 + d.val : Nat) : Int)).data.toList = [UInt8.ofNat (48 + d.val)] := by decide +kernel
theorem chr_dig {d : Nat} (h : d < 10) : (Utf8.encode ((48 : Int) + (d : Int))).data.toList = [UInt8.ofNat (48 + d)] := by
  have := chr_fin ⟨d, h⟩
  rw [← this]
  congr 2
end Go.Ai

