/- A part of the proof of the law ReplayDiffers. CONDITIONS: those that each theorem names. -/
import Derived.Lib.SlicesCompact
import Derived.Sort.Row
import Derived.Sort.Grow
import Derived.KernelRfl
import Derived.Test.YtfhgiadogeephaaGreatDoorRows
import Derived.Test.YtfhgiadogeephaaGreatDoorEngineA
import Derived.Test.YtfhgiadogeephaaGreatDoorEngineB
import Derived.Test.YtfhgiadogeephaaGreatDoorEngineC
import Derived.Test.YtfhgiadogeephaaGreatDoorEngineD
/-! One rule for an operation, guarded or not. -/
namespace Go.Ai
open Go
variable {P : Program} {G : Glob} {K : CallF} {m : Nat} {Q : Ex → Fr → St → Prop}
noncomputable def stepAny (P : Program) (G : Glob) (K : CallF) (ops : Array Oper) (o : Oper) (i : Nat) (fr : Fr) (s : St) : Option (Fr × St) :=
  match wantedA fr ops o with
  | true => stepOp P G K o.dst o.op i fr s
  | false => match fr.put o.dst .undef with
    | some fr' => some (fr', s)
    | none => none
theorem wantedA_none (fr : Fr) (ops : Array Oper) (dst : Option Tmp) (op : Op) (ty : TypeId) (pos : String) (after : Array Edge) : wantedA fr ops ⟨dst, op, ty, pos, after, none⟩ = true := rfl
section
variable {l : List Oper} {ops : Array Oper} {i : Nat} {fr fr' : Fr} {s s' : St} {o : Oper} {rest : List Oper} {j : Nat} {js : List Nat}
theorem r_any (h : stepAny P G K ops o i fr s = some (fr', s')) (hk : WR (textOps P G K ops rest (i + 1) fr' s') Q) : WR (textOps P G K ops (o :: rest) i fr s) Q := by
  obtain ⟨dst, op, ty, pos, after, g⟩ := o
  unfold stepAny at h
  cases hw : wantedA fr ops ⟨dst, op, ty, pos, after, g⟩ with
  | true =>
    rw [hw] at h
    simp only at h
    cases g with
    | none => exact r_step h hk
    | some g => exact r_stepT hw h hk
  | false =>
    rw [hw] at h
    simp only at h
    cases g with
    | none => rw [wantedA_none] at hw; cases hw
    | some g =>
      split at h
      · rename_i fr1 hp; cases h; exact r_stepF hw hp hk
      · cases h
noncomputable def readSelf (ops : Array Oper) (fr fr' : Fr) (o : Oper) : Bool :=
  match wantedA fr ops o, clsOf o.op, o.dst with
  | true, .read, some d => match fr'.t.get d with
    | some v => avEq v v
    | none => false
  | true, .read, none => false
  | _, _, _ => true
theorem d_any (ho : l[j]? = some o) (h : stepAny P G K l.toArray o j fr s = some (fr', s')) (hv : readSelf l.toArray fr fr' o = true) (hs : SameH s.h s'.h) (hk : DW P G K l Q js fr' s') : DW P G K l Q (j :: js) fr s := by
  unfold stepAny at h
  cases hw : wantedA fr l.toArray o with
  | true =>
    rw [hw] at h
    simp only at h
    refine ⟨o, ho, .inr ⟨hw, fr', s', h, hs, fun v h1 h2 => ?_, hk⟩⟩
    unfold stepOp at h
    rw [h1] at h
    obtain ⟨u, e, hp, _⟩ := stV_some h
    rw [h2] at e
    cases e
    unfold readSelf at hv
    rw [hw, h1] at hv
    cases hd : o.dst with
    | none => rw [hd] at hv; cases hv
    | some d =>
      rw [hd] at hv
      simp only at hv
      have := (put_some' hp).2.2 d
      rw [hd, if_pos rfl] at this
      rw [this] at hv
      exact hv
  | false =>
    rw [hw] at h
    simp only at h
    split at h
    · rename_i fr1 hp; cases h; exact ⟨o, ho, .inl ⟨hw, _, hp, hk⟩⟩
    · cases h
end
theorem av_str {l : List UInt8} : avEq (.str l) (.str l) = true := by simp [avEq]
theorem av_int {k : IntKind} {n : Int} : avEq (.int k n) (.int k n) = true := by simp [avEq]
theorem av_sl {b o eo n : Nat} {cap : Option Nat} : avEq (.slice b o eo n cap) (.slice b o eo n cap) = true := by simp [avEq]
theorem av_nils : avEq .nils .nils = true := rfl
theorem av_agg {l : List AV} : avEq (.agg l) (.agg l) = avsEq l l := by simp [avEq]
theorem avs_nil : avsEq [] [] = true := by simp [avsEq]
theorem avs_cons {a : AV} {l : List AV} : avsEq (a :: l) (a :: l) = (avEq a a && avsEq l l) := by simp [avsEq]
end Go.Ai

/-! Rules for the operations that are met most. -/
namespace Go.Ai
open Go
variable {P : Program} {G : Glob} {K : CallF} {Q : Ex → Fr → St → Prop} {ops : Array Oper} {rest : List Oper} {i F lc n : Nat} {t : T AV} {df : List (AV × List AV)} {rc : Rc} {s : St} {ty : TypeId} {pos : String} {after : Array Edge} {x d : Nat} {v : AV}
theorem r_move (hv : t.get x = some v) (hd : d < n) (hk : WR (textOps P G K ops rest (i + 1) ⟨F, lc, n, t.set d v, df, rc⟩ s) Q) : WR (textOps P G K ops (⟨some d, .move (.tmp x), ty, pos, after, none⟩ :: rest) i ⟨F, lc, n, t, df, rc⟩ s) Q := by
  refine r_step (fr' := ⟨F, lc, n, t.set d v, df, rc⟩) (s' := s) ?_ hk
  show stV ⟨F, lc, n, t, df, rc⟩ (some d) s (pureOp P ⟨F, lc, n, t, df, rc⟩ (.move (.tmp x))) = _
  have : pureOp P ⟨F, lc, n, t, df, rc⟩ (.move (.tmp x)) = some v := by
    simp only [pureOp, ev_tmp, hv]
  rw [this, stV_mk, put_mk, if_pos hd]
theorem r_assign (hv : t.get x = some v) (hd : d < n) (hk : WR (textOps P G K ops rest (i + 1) ⟨F, lc, n, t.set d v, df, rc⟩ s) Q) : WR (textOps P G K ops (⟨some d, .assign (.tmp x), ty, pos, after, none⟩ :: rest) i ⟨F, lc, n, t, df, rc⟩ s) Q := by
  refine r_step (fr' := ⟨F, lc, n, t.set d v, df, rc⟩) (s' := s) ?_ hk
  show stV ⟨F, lc, n, t, df, rc⟩ (some d) s (pureOp P ⟨F, lc, n, t, df, rc⟩ (.assign (.tmp x))) = _
  have : pureOp P ⟨F, lc, n, t, df, rc⟩ (.assign (.tmp x)) = some v := by
    simp only [pureOp, ev_tmp, hv]
  rw [this, stV_mk, put_mk, if_pos hd]
theorem r_condT {c : Nat} {b : Bool} {a1 a2 : Code} {m : Nat} (hv : t.get c = some (.bool b)) (h : ifQ b (WR (code P G K m a1 ⟨F, lc, n, t, df, rc⟩ s) Q) (WR (code P G K m a2 ⟨F, lc, n, t, df, rc⟩ s) Q)) : WR (code P G K m (.cond (.tmp c) a1 a2) ⟨F, lc, n, t, df, rc⟩ s) Q := by
  refine r_cond (b := b) ?_ h
  rw [ev_tmp, hv]
end Go.Ai

/-! What a pass's freshness is, in plain words. -/
namespace Go.Ai
open Go
abbrev ksV : List CK := [.i .i64, .i .i64, .s]
abbrev ksT : List CK := [.s]
abbrev zeroV : List AV := [.int .i64 0, .int .i64 0, .str []]
def plainB (c : UInt8) : Prop := 32 ≤ c.toNat ∧ c.toNat ≤ 126
def vOk (k n : Int) (t : List UInt8) : Prop := (k = 0 ∧ n = 0 ∧ t = []) ∨ (k = 1 ∧ t = []) ∨ (k = 2 ∧ n = 0 ∧ t.length ≤ 64 ∧ ∀ c ∈ t, plainB c)
def okL : List AV → Prop
  | [.int _ k, .int _ n, .str t] => vOk k n t
  | _ => False
noncomputable def clean (v : List AV) : List AV := open Classical in if okL v then v else zeroV
theorem cks_V {l : List AV} (h : cksOk ksV l) : ∃ k n t, l = [.int .i64 k, .int .i64 n, .str t] ∧ t.length ≤ maxLen := by
  obtain ⟨a, r, rfl, ha, b, r', rfl, hb, c, r'', rfl, hc, rfl⟩ := h
  cases a <;> simp only [ckOk] at ha <;> try exact ha.elim
  cases b <;> simp only [ckOk] at hb <;> try exact hb.elim
  cases c <;> simp only [ckOk] at hc <;> try exact hc.elim
  obtain ⟨rfl, _⟩ := ha
  obtain ⟨rfl, _⟩ := hb
  exact ⟨_, _, _, rfl, hc⟩
theorem eq_idx {L M : List (List AV)} (hl : L.length = M.length) (h : ∀ i (hi : i < L.length) (hj : i < M.length), L[i] = M[i]) : L = M := List.ext_getElem hl h
theorem ne_idx {L M : List (List AV)} {i : Nat} (hi : i < L.length) (hj : i < M.length) (h : L[i] ≠ M[i]) : L ≠ M := fun e => by subst e; exact h rfl
theorem ne_len {L M : List (List AV)} (h : L.length ≠ M.length) : L ≠ M := fun e => by subst e; exact h rfl
end Go.Ai

/-! The elements of lists, as they are read. -/
namespace Go.Ai
open Go
theorem rd_low {h : Heap} {F b o n : Nat} {l : List AV} (hw : Wf ⟨h, F⟩) (hr : rdAB (hget h b) o n = some l) : b < ky F 0 := by
  obtain ⟨ab, e, hd⟩ := rdAB_ne hr
  exact hw b ab e hd
variable {h h1 : Heap} {F i : Nat} {a : AV} {L : List (List AV)}
theorem value_at (hw : Wf ⟨h, F⟩) (hl : LstP h ksV a L) (hs : SameH h h1) (hi : i < L.length) : ∃ b o eo cap k n t, a = .slice b o eo L.length cap ∧ b < ky F 0 ∧ L[i] = [.int .i64 k, .int .i64 n, .str t] ∧
    rdAB (hget h1 b) (o + i * 3) 3 = some [.int .i64 k, .int .i64 n, .str t] := by
  obtain ⟨b, o, eo, cap, e, h0, hp⟩ := hl.at hi
  obtain ⟨k, n, t, el, htl⟩ := cks_V (hl.ok hi)
  rw [el] at h0 hp
  exact ⟨b, o, eo, cap, k, n, t, e, rd_low hw h0, el, hs.rd h0⟩
theorem out_eq {v v' : AV} {s : St} (h : v = v') : Out.val v s = Out.val v' s := by rw [h]
theorem av_self_slice {b o eo n : Nat} {cap : Option Nat} : avEq (.slice b o eo n cap) (.slice b o eo n cap) = true := by simp [avEq]
theorem av_self_L {ks : List CK} (hl : LstP h ks a L) : avEq a a = true := by
  rcases hl.2.2 with ⟨rfl | rfl, _⟩ | ⟨b, o, eo, cap, rfl, _⟩
  · rfl
  · rfl
  · exact av_self_slice
theorem sameT {h : Heap} : SameH h h = True := eq_true (SameH.refl h)
theorem sameS {h h' : Heap} {F c : Nat} {b : AB} (hw : Wf ⟨h, F⟩) : SameH h (hset h' (ky F c) b) = SameH h h' := by
  apply propext
  constructor
  · intro hs i ab hi hd
    have := hs i ab hi hd
    have hl := hw i ab hi hd
    have hl2 := ky_le F c
    simp only at hl
    rw [hget_hset, if_neg (by omega)] at this
    exact this
  · intro hs; exact SameH.hset hw hs (ky_le _ _)
theorem rLen1_str {P : Program} {h : Heap} {t : TypeId} {s : List UInt8} : rLen1 P h t (some (.str s)) = lenA P t (.str s) := rfl
theorem rLen1_sl {P : Program} {h : Heap} {t : TypeId} {b o eo n : Nat} {cap : Option Nat} : rLen1 P h t (some (.slice b o eo n cap)) = lenA P t (.slice b o eo n cap) := rfl
end Go.Ai

/-! A table with one more call; new lists. -/
namespace Go.Ai
open Go
variable {P : Program} {G : Glob}
end Go.Ai

/-! Sorted and made single, a list of numbers below n is the numbers below n that stand in it. -/
namespace Go.Ai
open Go
theorem strict_ext : ∀ {a b : List Int}, a.Pairwise (· < ·) → b.Pairwise (· < ·) → (∀ x, x ∈ a ↔ x ∈ b) → a = b
  | [], [], _, _, _ => rfl
  | [], b :: bs, _, _, h => absurd ((h b).2 List.mem_cons_self) (by simp)
  | a :: ar, [], _, _, h => absurd ((h a).1 List.mem_cons_self) (by simp)
  | a :: ar, b :: bs, ha, hb, h => by
    rw [List.pairwise_cons] at ha hb
    have e : a = b := by
      rcases List.mem_cons.1 ((h a).1 List.mem_cons_self) with e | e
      · exact e
      · rcases List.mem_cons.1 ((h b).2 List.mem_cons_self) with e' | e'
        · exact e'.symm
        · have := hb.1 a e
          have := ha.1 b e'
          omega
    subst e
    rw [strict_ext ha.2 hb.2 fun x => ?_]
    constructor
    · intro hx
      rcases List.mem_cons.1 ((h x).1 (List.mem_cons_of_mem _ hx)) with e | e
      · have := ha.1 x hx; omega
      · exact e
    · intro hx
      rcases List.mem_cons.1 ((h x).2 (List.mem_cons_of_mem _ hx)) with e | e
      · have := hb.1 x hx; omega
      · exact e
theorem compact_eq (zs : List Int) : Lib.compact zs = ((List.range zs.length).filter (Lib.keeps zs.toArray)).map (zs[·]!) := by
  unfold Lib.compact Lib.compactUpTo
  refine List.map_congr_left fun i _ => ?_
  simp
theorem keeps_iff (zs : List Int) (i : Nat) : Lib.keeps zs.toArray i = true ↔ i = 0 ∨ zs[i]! ≠ zs[i - 1]! := by
  simp [Lib.keeps]
theorem get!_mem {zs : List Int} {i : Nat} (h : i < zs.length) : zs[i]! ∈ zs := by
  rw [getElem!_pos zs i h]; exact List.getElem_mem h
theorem mem_compact (zs : List Int) (x : Int) : x ∈ Lib.compact zs ↔ x ∈ zs := by
  rw [compact_eq]
  constructor
  · intro hx
    obtain ⟨i, hi, rfl⟩ := List.mem_map.1 hx
    have := List.mem_range.1 (List.mem_filter.1 hi).1
    exact get!_mem this
  · intro hx
    obtain ⟨i, hi, rfl⟩ := List.getElem_of_mem hx
    suffices h : ∀ m i (hi : i < zs.length), i < m → zs[i] ∈ ((List.range zs.length).filter (Lib.keeps zs.toArray)).map (zs[·]!) from h (i + 1) i hi (by omega)
    intro m
    induction m with
    | zero => intro i _ h; omega
    | succ m ih =>
      intro i hi hm
      by_cases hk : Lib.keeps zs.toArray i = true
      · exact List.mem_map.2 ⟨i, List.mem_filter.2 ⟨List.mem_range.2 hi, hk⟩, getElem!_pos zs i hi⟩
      · have h := (not_congr (keeps_iff zs i)).1 hk
        have h0 : i ≠ 0 := fun e => h (.inl e)
        have h1 : zs[i]! = zs[i - 1]! := Decidable.of_not_not fun e => h (.inr e)
        rw [getElem!_pos zs i hi, getElem!_pos zs (i - 1) (by omega)] at h1
        rw [h1]
        exact ih (i - 1) (by omega) (by omega)
theorem compact_strict {zs : List Int} (h : zs.Pairwise (· ≤ ·)) : (Lib.compact zs).Pairwise (· < ·) := by
  rw [compact_eq, List.pairwise_map, List.pairwise_filter]
  refine List.Pairwise.imp_of_mem (R := (· < ·)) (fun {i j} hi hj hlt _ hk => ?_) List.pairwise_lt_range
  have hi := List.mem_range.1 hi
  have hj := List.mem_range.1 hj
  rw [List.pairwise_iff_getElem] at h
  have hle : ∀ a b (ha : a < zs.length) (hb : b < zs.length), a ≤ b → zs[a] ≤ zs[b] := fun a b ha hb hab => by
    rcases Nat.lt_or_eq_of_le hab with c | c
    · exact h a b ha hb c
    · subst c; exact Int.le_refl _
  rcases (keeps_iff zs j).1 hk with e | e
  · omega
  · have hj1 : j - 1 < zs.length := by omega
    rw [getElem!_pos zs j hj, getElem!_pos zs (j - 1) hj1] at e
    rw [getElem!_pos zs i hi, getElem!_pos zs j hj]
    have a1 := hle i (j - 1) hi hj1 (by omega)
    have a2 := hle (j - 1) j hj1 hj (by omega)
    omega
noncomputable def sorted (zs : List Int) : List Int := zs.mergeSort fun x y => decide (x ≤ y)
theorem sorted_le (zs : List Int) : (sorted zs).Pairwise (· ≤ ·) := by
  have := List.pairwise_mergeSort (le := fun x y : Int => decide (x ≤ y)) (fun a b c h1 h2 => by simp at *; omega) (fun a b => by simp; omega) zs
  exact this.imp fun h => by simpa using h
theorem sorted_mem (zs : List Int) (x : Int) : x ∈ sorted zs ↔ x ∈ zs := List.mem_mergeSort
/-- the numbers below n that stand in a list -/
noncomputable def below (zs : List Int) (n : Nat) : List Int := ((List.range n).map Int.ofNat).filter fun x => decide (x ∈ zs)
theorem single {zs : List Int} {n : Nat} (h : ∀ z ∈ zs, 0 ≤ z ∧ z < n) : Lib.compact (sorted zs) = below zs n := by
  refine strict_ext (compact_strict (sorted_le zs)) ?_ fun x => ?_
  · unfold below
    refine List.Pairwise.filter _ ?_
    rw [List.pairwise_map]
    exact List.pairwise_lt_range.imp fun h => by simpa using h
  · rw [mem_compact, sorted_mem]
    unfold below
    rw [List.mem_filter, decide_eq_true_eq]
    constructor
    · intro hx
      obtain ⟨h0, h1⟩ := h x hx
      exact ⟨List.mem_map.2 ⟨x.toNat, List.mem_range.2 (by omega), by simp; omega⟩, hx⟩
    · exact fun h => h.2
end Go.Ai

/-! Calls that make one new block; the library's sort. -/
namespace Go.Ai
open Go
variable {P : Program} {G : Glob}

/-! ### the library's sort of numbers -/
end Go.Ai

/-! The partition of a key. -/
namespace Go.Ai
open Go
variable {P : Program}
theorem wrapU (n : Int) : IntKind.u64.wrap n = n % 18446744073709551616 := by simp [IntKind.wrap, IntKind.bits, IntKind.signed]
theorem wrapI_in {n : Int} (h0 : 0 ≤ n) (h1 : n < 9223372036854775808) : IntKind.i64.wrap n = n := by
  have : IntKind.i64.wrap n = if n % 18446744073709551616 ≥ 9223372036854775808 then n % 18446744073709551616 - 18446744073709551616 else n % 18446744073709551616 := by simp [IntKind.wrap, IntKind.bits, IntKind.signed]
  rw [this]
  split <;> omega
/-- a number that the kernel doesn't look into -/
noncomputable def lock (x : Int) : Int := Classical.choose (⟨x, rfl⟩ : ∃ y, y = x)
theorem lock_eq (x : Int) : lock x = x := Classical.choose_spec (⟨x, rfl⟩ : ∃ y, y = x)
noncomputable def xorU (a b : Int) : Int := lock (IntKind.u64.wrap ((BitVec.ofInt 64 a ^^^ BitVec.ofInt 64 b).toNat : Int))
noncomputable def mulU (a b : Int) : Int := lock (IntKind.u64.wrap (a * b))
noncomputable def remU (a b : Int) : Int := lock (a.tmod b)
noncomputable def wrapL (k : IntKind) (n : Int) : Int := lock (k.wrap n)
theorem intOp_xor {t : TypeId} {a b : Int} : intOp P .xor t .u64 .u64 a b = some (.int .u64 (xorU a b)) := by
  have e : intOp P .xor t .u64 .u64 a b = some (.int .u64 (IntKind.u64.wrap ((BitVec.ofInt 64 a ^^^ BitVec.ofInt 64 b).toNat : Int))) := rfl
  rw [e, xorU, lock_eq]
theorem intOp_mul {t : TypeId} {a b : Int} : intOp P .mul t .u64 .u64 a b = some (.int .u64 (mulU a b)) := by
  rw [mulU, lock_eq]
  simp [intOp, binOp, runP, ofS, Op.intArith, pure]
theorem intOp_rem {t : TypeId} {a b : Int} (h : b ≠ 0) : intOp P .rem t .u64 .u64 a b = some (.int .u64 (remU a b)) := by
  rw [remU, lock_eq]
  simp [intOp, binOp, runP, ofS, Op.intDiv, pure, h]
noncomputable def hstep (h : Int) (c : UInt8) : Int := mulU (xorU h (wrapL .u64 (c.toNat : Int))) 1099511628211
noncomputable def hashI (s : List UInt8) : Int := lock (s.foldl hstep 14695981039346656037)
noncomputable def hashP (s : List UInt8) (i : Nat) : Int := lock ((s.take i).foldl hstep 14695981039346656037)
theorem hashP_0 (s : List UInt8) : hashP s 0 = 14695981039346656037 := by
  rw [hashP, lock_eq, List.take_zero, List.foldl_nil]
theorem hashP_succ {s : List UInt8} {i : Nat} (hi : i < s.length) : hashP s (i + 1) = mulU (xorU (hashP s i) (wrapL .u64 (s[i].toNat : Int))) 1099511628211 := by
  rw [hashP, hashP, lock_eq, lock_eq, List.take_succ_eq_append_getElem hi, List.foldl_append]; rfl
theorem hashP_all (s : List UInt8) : hashP s s.length = hashI s := by rw [hashP, List.take_length]; rfl
noncomputable def partI (s : List UInt8) (n : Int) : Int := wrapL .i64 (remU (hashI s) (wrapL .u64 n))
noncomputable def partOf (n : Int) (l : List AV) : Int := match l with
  | [.str s] => partI s n
  | _ => 0
noncomputable def parts (n : Int) (L : List (List AV)) : List Int := L.map (partOf n)
end Go.Ai

/-! Lists of numbers that grow; rounds that are known. -/
namespace Go.Ai
open Go
variable {P : Program} {G : Glob} {K : CallF} {m : Nat} {Q : Ex → Fr → St → Prop}

/-! ### a loop, round by round -/
/-! ### append -/
section
variable {t e t2 e2 : TypeId} {es by' key : Nat} {s : St} {b : AV}
theorem app_nil (hu : P.underlying t = some (.slice e)) (h2 : P.underlying t2 = some (.slice e2)) (hs : sizeT P e = some es) (hb : bytesT P e = some by') (hz : zeroOk P e es by' = true)
    {n : Nat} {news : List AV} (hsrc : srcCells s.h es b = some (n, news)) (hp : 0 < n) (hn : n ≤ 100000) (hby : by' ≤ 1000) (htg : tagA P e = 0 := by kernel_rfl) : appendA P t t2 key s .nils b = some (.slice key 0 0 n none, s.upd key (mkRow news es)) := by
  obtain ⟨n, rfl⟩ : ∃ k, n = k + 1 := ⟨n - 1, by omega⟩
  have hble : Nat.ble ((2 * (n + 1) + 1024) * by') 281474976710656 = true := by
    rw [Nat.ble_eq]; exact Nat.le_trans (Nat.mul_le_mul (by omega : 2 * (n + 1) + 1024 ≤ 201024) hby) (by decide)
  simp only [appendA, hu, h2, hs, hb, hz, hsrc, hble, htg, rowT_mk, mkRowT_0]
end

/-! ### a list of numbers of this frame -/
end Go.Ai

/-! Small rules. -/
namespace Go.Ai
open Go
def lenOk (s : List UInt8) : Prop := s.length ≤ maxLen
theorem out_t {p : Prop} {s : St} (hp : p) : Out.val (.bool true) s = Out.val (.bool (dec p)) s := by rw [dec_t hp]
theorem out_f {p : Prop} {s : St} (hp : ¬ p) : Out.val (.bool false) s = Out.val (.bool (dec p)) s := by rw [dec_f hp]
theorem out_b {p : Prop} {b : Bool} {s : St} (hp : b = true ↔ p) : Out.val (.bool b) s = Out.val (.bool (dec p)) s := by rw [bool_dec hp]
theorem rCv_int {P : Program} {h : Heap} {src dst : TypeId} {d : TypeDesc} {k k' : IntKind} {n : Int} (hd : P.underlying dst = some (.int k)) (hs : P.underlying src = some d) : rCv P h src dst (some (.int k' n)) = some (.int k (wrapL k n)) := by
  rw [wrapL, lock_eq]
  simp only [rCv, convA, hd, hs]
/-- the name of a callee's first block; the kernel doesn't look into it -/
noncomputable def nk (F : Nat) : Nat := Classical.choose (⟨ky F 0, rfl⟩ : ∃ y, y = ky F 0)
theorem natOf_c (k : IntKind) (i : Nat) : natOf (.int k (i : Int)) = some i := rfl
end Go.Ai

/-! Calls of which something is said; regions that draw their order, with such calls. -/
namespace Go.Ai
open Go
variable {P : Program} {G : Glob} {K : CallF} {m : Nat} {Q : Ex → Fr → St → Prop}
/-- a table whose outcomes are known by what is said of them -/
noncomputable def KUf (P : Program) (G : Glob) (S : FuncId → List AV → St → Out → Prop) : FuncId → List AV → St → Outs := fun f args s =>
  open Classical in if h : ∃ outs, Snd P G f args s outs ∧ ∀ o ∈ outs, S f args s o then some h.choose else none
noncomputable def KU (P : Program) (G : Glob) (S : FuncId → List AV → St → Out → Prop) : CallF := ⟨KUf P G S, fun _ _ _ => none⟩
theorem ku_ok {S : FuncId → List AV → St → Out → Prop} : KOK P G (KU P G S) := KOK.table fun f args s outs h => by
  unfold KUf at h
  split at h
  · rename_i he
    cases h
    exact he.choose_spec.1
  · cases h
theorem ku_hit {S : FuncId → List AV → St → Out → Prop} {f : FuncId} {args : List AV} {s : St} (h : SndQ P G f args s (S f args s)) : ∃ outs, KUf P G S f args s = some outs ∧ ∀ o ∈ outs, S f args s o := by
  have he : ∃ outs, Snd P G f args s outs ∧ ∀ o ∈ outs, S f args s o := h
  exact ⟨he.choose, by unfold KUf; rw [dif_pos he], he.choose_spec.2⟩
/-- the outcomes of an operation that calls -/
noncomputable def callOuts (P : Program) (K : CallF) (fr : Fr) (i : Nat) (s : St) : Op → Outs
  | .call c => match c.callee with
    | .builtin _ => none
    | _ => callTo K s (target P fr c)
  | _ => none
/-- behind a call -/
def backQ (fr : Fr) (dst : Option Tmp) (k : Fr → St → Prop) : Out → Prop
  | .val v s' => ∃ fr', fr.put dst v = some fr' ∧ k fr' s'
  | .pan _ _ => False
theorem callOuts_one {dst : Option Tmp} {op : Op} {i : Nat} {fr : Fr} {s : St} {outs : List Out} (h : callOuts P K fr i s op = some outs) (k : Fr → St → Res) : oneOp P G K dst op i fr s k = outsTo (fun v s => putK s k (fr.put dst v)) fr outs := by
  unfold callOuts at h
  split at h
  · rename_i c
    split at h
    · cases h
    · rename_i hcal
      have hc : clsOf (.call c) = .heavy := by
        cases hcc : c.callee with
        | builtin b => exact absurd hcc (hcal b)
        | _ => simp [clsOf, clsCall, hcc]
      have hh : heavyCall P K fr (keyOf fr i) s c = some outs := by
        unfold heavyCall
        split
        · rename_i b hb; exact absurd hb (hcal b)
        · exact h
      unfold oneOp
      rw [hc]
      simp only [oneHeavy, oneCall]
      split
      · rename_i hb; exact absurd hb (hcal _)
      · rw [hh]; rfl
  · cases h
theorem wr_outs {f : AV → St → Res} {fr : Fr} {dst : Option Tmp} {k : Fr → St → Prop} (hf : ∀ v s fr', fr.put dst v = some fr' → k fr' s → WR (f v s) Q) : ∀ {outs : List Out}, (∀ o ∈ outs, backQ fr dst k o) → WR (outsTo f fr outs) Q
  | [], _ => ⟨[], rfl, fun _ _ _ h => by cases h⟩
  | .pan v s :: rest, h => (h _ List.mem_cons_self).elim
  | .val v s :: rest, h => by
    obtain ⟨fr', hp, hk⟩ := h _ List.mem_cons_self
    obtain ⟨l1, e1, h1⟩ := hf v s fr' hp hk
    simp only [outsTo, e1]
    cases rest with
    | nil => exact ⟨l1, rfl, h1⟩
    | cons y ys =>
      obtain ⟨l2, e2, h2⟩ := wr_outs hf (outs := y :: ys) fun o ho => h o (List.mem_cons_of_mem _ ho)
      simp only [e2]
      exact ⟨_, rfl, fun e fr s hm => by
        rcases List.mem_append.1 hm with q | q
        · exact h1 e fr s q
        · exact h2 e fr s q⟩
theorem wr_douts {f : AV → St → Res} {fr : Fr} {dst : Option Tmp} {k : Fr → St → Prop} {bh : Bool} (hf : ∀ v s fr', fr.put dst v = some fr' → k fr' s → WR (f v s) Q) : ∀ {outs : List Out}, (∀ o ∈ outs, backQ fr dst k o) → WR (drawOuts f fr bh outs) Q
  | [], _ => ⟨[], rfl, fun _ _ _ h => by cases h⟩
  | .pan v s :: rest, h => (h _ List.mem_cons_self).elim
  | .val v s :: rest, h => by
    obtain ⟨fr', hp, hk⟩ := h _ List.mem_cons_self
    obtain ⟨l1, e1, h1⟩ := hf v s fr' hp hk
    simp only [drawOuts, e1]
    cases rest with
    | nil => exact ⟨l1, rfl, h1⟩
    | cons y ys =>
      obtain ⟨l2, e2, h2⟩ := wr_douts (bh := bh) hf (outs := y :: ys) fun o ho => h o (List.mem_cons_of_mem _ ho)
      simp only [e2]
      exact ⟨_, rfl, fun e fr s hm => by
        rcases List.mem_append.1 hm with q | q
        · exact h1 e fr s q
        · exact h2 e fr s q⟩
section
variable {S : FuncId → List AV → St → Out → Prop} {l : List Oper} {ops : Array Oper} {i : Nat} {fr fr' : Fr} {s s' : St} {o : Oper} {rest : List Oper} {j : Nat} {js : List Nat} {f : FuncId} {args : List AV}
/-- a region that draws its order, with calls of which something is said -/
def DQ (P : Program) (G : Glob) (K : CallF) (l : List Oper) (Q : Ex → Fr → St → Prop) : List Nat → Fr → St → Prop
  | [], fr, s => Q .normal (fr.bump l.length) s
  | j :: js, fr, s => ∃ o, l[j]? = some o ∧ ((wantedA fr l.toArray o = false ∧ ∃ fr', fr.put o.dst .undef = some fr' ∧ DQ P G K l Q js fr' s) ∨
      (wantedA fr l.toArray o = true ∧ ∃ fr' s', stepOp P G K o.dst o.op j fr s = some (fr', s') ∧ SameH s.h s'.h ∧ (∀ v, clsOf o.op = .read → readOp P G fr s.h o.op = some v → avEq v v = true) ∧ DQ P G K l Q js fr' s') ∨
      (wantedA fr l.toArray o = true ∧ ∃ outs, callOuts P K fr j s o.op = some outs ∧ ∀ x ∈ outs, backQ fr o.dst (fun fr' s' => SameH s.h s'.h ∧ DQ P G K l Q js fr' s') x))
theorem callOuts_heavy {op : Op} {outs : List Out} (h : callOuts P K fr i s op = some outs) : clsOf op = .heavy ∧ heavy P K fr (keyOf fr i) s op = some outs := by
  unfold callOuts at h
  split at h
  · rename_i c
    split at h
    · cases h
    · rename_i hcal
      have hh : heavyCall P K fr (keyOf fr i) s c = some outs := by
        unfold heavyCall
        split
        · rename_i b hb; exact absurd hb (hcal b)
        · exact h
      refine ⟨?_, hh⟩
      cases hcc : c.callee with
      | builtin b => exact absurd hcc (hcal b)
      | _ => simp [clsOf, clsCall, hcc]
  · cases h
theorem dq_sound {l : List Oper} : ∀ {order : List DE} {js : List Nat} {done : Nat} {fr : Fr} {s : St} {rs : List (Nat × Nat × Op × AV)}, order.map (·.1) = js → (∀ e ∈ order, l[e.1]? = some e.2.2.2) → drawC order = true → SeenOk P G fr s rs order → DQ P G K l Q js fr s → WR (drawOps P G K l.toArray l.length order done fr s ⟨[], rs⟩) Q
  | [], js, done, fr, s, rs, hj, _, _, _, hw => by
    subst hj
    simp only [drawOps, addAll, St.withH_eq, wr_one]
    exact hw
  | (i, b, c, o) :: rest, js, done, fr, s, rs, hj, hl, hc, hso, hw => by
    subst hj
    simp only [List.map_cons, DQ] at hw
    obtain ⟨o', ho, hw⟩ := hw
    have := hl _ List.mem_cons_self
    simp only at this
    rw [this] at ho
    cases ho
    have hl' : ∀ e ∈ rest, l[e.1]? = some e.2.2.2 := fun e he => hl e (List.mem_cons_of_mem _ he)
    have hc' : drawC rest = true := by
      simp only [drawC] at hc
      split at hc
      · cases hc
      · exact hc
      · split at hc
        · exact hc
        · cases hc
      · split at hc
        · exact hc
        · cases hc
    rcases hw with ⟨hg, fr', hp, hw⟩ | ⟨hg, fr', s', hst, hs, hav, hw⟩ | ⟨hg, outs, hco, hbk⟩
    · simp only [drawOps, hg, hp, putK, natC_eq]
      exact dq_sound rfl hl' hc' (SeenOk.put hso hp (SameH.refl _)) hw
    · simp only [drawOps, hg, dOne]
      unfold stepOp at hst
      cases hcl : clsOf o.op with
      | pure =>
        rw [hcl] at hst
        obtain ⟨u, e, hp, rfl⟩ := stV_some hst
        simp only [e, putV, hp, putK, natC_eq]
        exact dq_sound rfl hl' hc' (SeenOk.put hso hp (SameH.refl _)) hw
      | read =>
        rw [hcl] at hst
        obtain ⟨u, e, hp, rfl⟩ := stV_some hst
        have e1 : addMade b s'.h [] = s'.h := rfl
        simp only [e1, e, dRead, hp, putK, natC_eq]
        simp only [drawC, hcl] at hc
        split at hc
        · rename_i h1 h2
          refine dq_sound rfl hl' hc' ?_ hw
          have hso' : SeenOk P G fr s' ((i, b, o.op, u) :: rs) ((i, b, c, o) :: rest) := by
            intro x hx
            rcases List.mem_cons.1 hx with rfl | hx
            · exact ⟨e, h1, h2, hav u hcl e⟩
            · exact hso x hx
          exact SeenOk.put hso' hp (SameH.refl _)
        · cases hc
      | alloc =>
        simp only [drawC, hcl] at hc
        cases hc
      | heavy =>
        rw [hcl] at hst
        obtain ⟨u, e, hp⟩ := stHeavy_some hst
        have e3 : dHeavy P G K o b i done fr (s.withH (addMade b s.h [])) ⟨[], rs⟩ (fun fr s z => natC (Nat.lor done (2 ^ i)) fun d => drawOps P G K l.toArray l.length rest d fr s z) = dHeavy2 P G o b done fr s.h ⟨[], rs⟩ (fun fr s z => natC (Nat.lor done (2 ^ i)) fun d => drawOps P G K l.toArray l.length rest d fr s z) (heavy P K fr (keyOf fr i) s o.op) := by
          simp only [drawC, hcl] at hc
          unfold dHeavy
          split
          · rename_i h0; rw [h0] at hc; simp [notRange] at hc
          · rfl
        rw [e3, e]
        have hso2 : SeenOk P G fr s' rs ((i, b, c, o) :: rest) := fun x hx => by
          obtain ⟨h1, h2, h3, h4⟩ := hso x hx
          exact ⟨readOp_more hs h2 h1, h2, h3, h4⟩
        have e4 : readsOk P G fr s'.h [] (readsLeft b rs) = true := readsOk_of fun x hx => by
          obtain ⟨r, hr⟩ := readsLeft_sub hx
          obtain ⟨h1, _, _, h4⟩ := hso2 _ hr
          exact ⟨h1, h4⟩
        have e5 : asideOk s.h s'.h [] = true := rfl
        simp only [dHeavy2, drawOuts, e4, e5, hp, putK, natC_eq]
        have := dq_sound (done := Nat.lor done (2 ^ i)) (order := rest) rfl hl' hc' (SeenOk.put hso2 hp (SameH.refl _)) hw
        cases hx : drawOps P G K l.toArray l.length rest (Nat.lor done (2 ^ i)) fr' s' ⟨[], rs⟩ with
        | none => rw [hx] at this; exact this
        | some x => rw [hx] at this; exact this
    · simp only [drawOps, hg, dOne]
      obtain ⟨hcl, hh⟩ := callOuts_heavy hco
      simp only [hcl]
      have e3 : dHeavy P G K o b i done fr (s.withH (addMade b s.h [])) ⟨[], rs⟩ (fun fr s z => natC (Nat.lor done (2 ^ i)) fun d => drawOps P G K l.toArray l.length rest d fr s z) = dHeavy2 P G o b done fr s.h ⟨[], rs⟩ (fun fr s z => natC (Nat.lor done (2 ^ i)) fun d => drawOps P G K l.toArray l.length rest d fr s z) (heavy P K fr (keyOf fr i) s o.op) := by
        simp only [drawC, hcl] at hc
        unfold dHeavy
        split
        · rename_i h0; rw [h0] at hc; simp [notRange] at hc
        · rfl
      rw [e3, hh]
      simp only [dHeavy2]
      refine wr_douts (dst := o.dst) (k := fun fr' s' => SameH s.h s'.h ∧ DQ P G K l Q (rest.map (·.1)) fr' s') ?_ hbk
      rintro v s' fr' hp ⟨hs, hw⟩
      have hso2 : SeenOk P G fr s' rs ((i, b, c, o) :: rest) := fun x hx => by
        obtain ⟨h1, h2, h3, h4⟩ := hso x hx
        exact ⟨readOp_more hs h2 h1, h2, h3, h4⟩
      have e4 : readsOk P G fr s'.h [] (readsLeft b rs) = true := readsOk_of fun x hx => by
        obtain ⟨r, hr⟩ := readsLeft_sub hx
        obtain ⟨h1, _, _, h4⟩ := hso2 _ hr
        exact ⟨h1, h4⟩
      have e5 : asideOk s.h s'.h [] = true := rfl
      simp only [e4, e5, hp, putK, natC_eq]
      exact dq_sound (done := Nat.lor done (2 ^ i)) (order := rest) rfl hl' hc' (SeenOk.put hso2 hp (SameH.refl _)) hw
theorem q_end {F lc lc' n : Nat} {t : T AV} {df : List (AV × List AV)} {rc : Rc} (hl : lc + l.length = lc') (h : Q .normal ⟨F, lc', n, t, df, rc⟩ s) : DQ P G K l Q [] ⟨F, lc, n, t, df, rc⟩ s := by
  show Q .normal (Fr.bump ⟨F, lc, n, t, df, rc⟩ l.length) s
  rw [bump_mk, hl]; exact h
theorem q_any (ho : l[j]? = some o) (h : stepAny P G K l.toArray o j fr s = some (fr', s')) (hv : readSelf l.toArray fr fr' o = true) (hs : SameH s.h s'.h) (hk : DQ P G K l Q js fr' s') : DQ P G K l Q (j :: js) fr s := by
  unfold stepAny at h
  cases hw : wantedA fr l.toArray o with
  | true =>
    rw [hw] at h
    simp only at h
    refine ⟨o, ho, .inr (.inl ⟨hw, fr', s', h, hs, fun v h1 h2 => ?_, hk⟩)⟩
    unfold stepOp at h
    rw [h1] at h
    obtain ⟨u, e, hp, _⟩ := stV_some h
    rw [h2] at e
    cases e
    unfold readSelf at hv
    rw [hw, h1] at hv
    cases hd : o.dst with
    | none => rw [hd] at hv; cases hv
    | some d =>
      rw [hd] at hv
      simp only at hv
      rw [hd] at hp
      have := (put_some' hp).2.2 d
      rw [if_pos rfl] at this
      rw [this] at hv
      exact hv
  | false =>
    rw [hw] at h
    simp only at h
    split at h
    · rename_i fr1 hp
      cases h
      exact ⟨o, ho, .inl ⟨hw, fr', hp, hk⟩⟩
    · cases h
theorem r_drawQ {id : Nat} {F lc n : Nat} {t : T AV} {df : List (AV × List AV)} {rc : Rc} (hj : (theOrder l).map (·.1) = js) (hok : (drawOk l (theOrder l) && drawC (theOrder l)) = true) (hk : lc + l.length ≤ 1267650600228229401496703205375)
    (h : DQ P G K l Q js ⟨F, lc, n, t, df, rc⟩ s) : WR (code P G K m (.region id l.toArray true) ⟨F, lc, n, t, df, rc⟩ s) Q := by
  rw [code]
  unfold region
  simp only [keysOk_mk, hk, decide_true]
  rw [Bool.and_eq_true] at hok
  unfold drawn
  rw [hok.1]
  exact dq_sound hj theOrder_at hok.2 (fun _ h => by cases h) h
end
end Go.Ai

/-! All that stand behind one: the search and the marks tell the same. -/
namespace Go.Ai
open Go
/-- what stands behind: by edges that lead down -/
inductive Reach (M : List (List Int)) (s : Nat) : Nat → Prop where
  | base : Reach M s s
  | step {n k : Nat} {l : List Int} : Reach M s n → M[n]? = some l → (k : Int) ∈ l → k < n → Reach M s k
noncomputable def behind (M : List (List Int)) (s : Nat) : List Int := ((List.range s).filter fun k => dec (Reach M s k)).map Int.ofNat
/-! ### the search -/
/-! ### the marks -/
end Go.Ai

/-! Rows of truth values; lists of lists. -/
namespace Go.Ai
open Go
variable {P : Program} {G : Glob}
/-! ### lists of lists -/
section
variable {h h1 : Heap} {ks : List CK} {a : AV} {LL : List (List (List AV))}
end
/-! ### causes: a text and a number -/
end Go.Ai
namespace Go.Ai
open Go
theorem ge_t {a b : Int} (h : a ≤ b) : decide (a ≤ b) = true := decide_eq_true h
theorem ge_f {a b : Int} (h : ¬ a ≤ b) : decide (a ≤ b) = false := decide_eq_false h
theorem ls_t {a b : Int} (h : a < b) : decide (a < b) = true := decide_eq_true h
theorem ls_f {a b : Int} (h : ¬ a < b) : decide (a < b) = false := decide_eq_false h
end Go.Ai
namespace Go.Ai
open Go
variable {P : Program}
end Go.Ai
namespace Go.Ai
open Go
end Go.Ai
namespace Go.Ai
open Go
end Go.Ai

/-! Lists that a function grows in blocks of its own. -/
namespace Go.Ai
open Go
variable {P : Program}
def OwnL (h : Heap) (F c es : Nat) (l : AV) (L : List (List AV)) : Prop :=
  ∃ pre : List (List AV), hget h (ky F c) = some (mkRow (pre ++ L).flatten es) ∧ (∀ x ∈ pre ++ L, x.length = es) ∧
    (l = .slice (ky F c) (pre.length * es) pre.length L.length none ∨ ∃ eo, l = .slice (ky F c) (pre.length * es) eo L.length (some L.length))
noncomputable def killQ (h : Heap) : AV → Heap
  | .slice k _ _ _ none => hset h k .dead
  | _ => h
theorem flat_length {L : List (List AV)} {es : Nat} (h : ∀ x ∈ L, x.length = es) : L.flatten.length = L.length * es := (flatten_get h).1
section
variable {h h' : Heap} {F c es : Nat} {l : AV} {L N : List (List AV)}
theorem OwnL.move (hi : OwnL h F c es l L) (he : hget h' (ky F c) = hget h (ky F c)) : OwnL h' F c es l L := by
  obtain ⟨pre, h1, h2, h3⟩ := hi
  exact ⟨pre, by rw [he]; exact h1, h2, h3⟩
theorem OwnL.new {cap : Option Nat} (hL : ∀ x ∈ L, x.length = es) (hg : hget h (ky F c) = some (mkRow L.flatten es)) (hc : cap = none ∨ cap = some L.length) : OwnL h F c es (.slice (ky F c) 0 0 L.length cap) L := by
  refine ⟨[], hg, by simpa using hL, ?_⟩
  rcases hc with rfl | rfl
  · left; simp
  · right; exact ⟨0, by simp⟩
/-- the cells of the list, from its place on -/
theorem OwnL.cells (hi : OwnL h F c es l L) : ∃ pre : List (List AV), ∃ eo cap, l = .slice (ky F c) (pre.length * es) eo L.length cap ∧ rdAB (hget h (ky F c)) (pre.length * es) (L.length * es) = some L.flatten := by
  obtain ⟨pre, h1, h2, h3⟩ := hi
  have e1 : pre.flatten.length = pre.length * es := flat_length fun x hx => h2 x (List.mem_append_left _ hx)
  have e2 : L.flatten.length = L.length * es := flat_length fun x hx => h2 x (List.mem_append_right _ hx)
  have hr : rdAB (hget h (ky F c)) (pre.length * es) (L.length * es) = some L.flatten := by
    rw [h1, rdAB_row, if_pos (by rw [List.flatten_append, List.length_append]; omega), List.flatten_append, ← e1, List.drop_append_of_le_length (Nat.le_refl _), List.drop_length, List.nil_append, ← e2, List.take_length]
  rcases h3 with rfl | ⟨eo, rfl⟩
  · exact ⟨pre, _, _, rfl, hr⟩
  · exact ⟨pre, _, _, rfl, hr⟩
theorem OwnL.lst {ks : List CK} (hi : OwnL h F c ks.length l L) (hok : ∀ x ∈ L, cksOk ks x) (hm : L.length ≤ maxLen) : LstP h ks l L := by
  obtain ⟨pre, eo, cap, rfl, hr⟩ := hi.cells
  exact ⟨hok, hm, .inr ⟨_, _, _, _, rfl, fun _ => hr⟩⟩
/-- APPEND: a new block; the old one is gone, where its room was not known. -/
theorem app_own {t t2 e e2 by' key : Nat} {s : St} {b : AV} (hu : P.underlying t = some (.slice e)) (h2 : P.underlying t2 = some (.slice e2)) (hs : sizeT P e = some es) (hb : bytesT P e = some by') (hz : zeroOk P e es by' = true)
    (hi : OwnL s.h F c es l L) (hsrc : srcCells s.h es b = some (N.length, N.flatten)) (hp : 0 < N.length) (hes : 0 < es) (hN : ∀ x ∈ N, x.length = es) (hc : allCell N.flatten = true) (hn : L.length + N.length ≤ 100000000) (hby : by' ≤ 1000) (htg : tagA P e = 0 := by kernel_rfl) :
    appendA P t t2 key s l b = some (.slice key 0 0 (L ++ N).length none, ⟨hset (killQ s.h l) key (mkRow (L ++ N).flatten es), s.fc⟩) := by
  obtain ⟨pre, h1, hl, h3⟩ := hi
  obtain ⟨n, hnn⟩ : ∃ k, N.length = k + 1 := ⟨N.length - 1, by omega⟩
  have e1 : pre.flatten.length = pre.length * es := flat_length fun x hx => hl x (List.mem_append_left _ hx)
  have e2 : L.flatten.length = L.length * es := flat_length fun x hx => hl x (List.mem_append_right _ hx)
  have hble : Nat.ble ((2 * (L.length + (n + 1)) + 1024) * by') 281474976710656 = true := by
    rw [Nat.ble_eq]; exact Nat.le_trans (Nat.mul_le_mul (by omega : 2 * (L.length + (n + 1)) + 1024 ≤ 200001024) hby) (by decide)
  have hrow : (pre ++ L).flatten.length = pre.length * es + L.length * es := by rw [List.flatten_append, List.length_append, e1, e2]
  have hfit : Nat.ble (pre.length * es + (L.length + (n + 1)) * es) (pre ++ L).flatten.length = false := by
    have : ¬ (pre.length * es + (L.length + (n + 1)) * es ≤ (pre ++ L).flatten.length) := by
      rw [hrow, Nat.add_mul L.length]
      have : 0 < (n + 1) * es := Nat.mul_pos (by omega) hes
      omega
    cases hq : Nat.ble (pre.length * es + (L.length + (n + 1)) * es) (pre ++ L).flatten.length with
    | false => rfl
    | true => exact absurd (Nat.le_of_ble_eq_true hq) this
  have hrd : readCells s.h (ky F c) (pre.length * es) (L.length * es) = some L.flatten := by
    rw [readCells_eq, h1, rdAB_row, if_pos (by omega), List.flatten_append, ← e1, List.drop_append_of_le_length (Nat.le_refl _), List.drop_length, List.nil_append, ← e2, List.take_length]
  have hbb : (Nat.beq es es && Nat.beq (pre.length * es) (pre.length * es) && allCell N.flatten) = true := by rw [hc]; simp
  have hno : Nat.ble (L.length + (n + 1)) L.length = false := by
    cases hq : Nat.ble (L.length + (n + 1)) L.length with
    | false => rfl
    | true => have := Nat.le_of_ble_eq_true hq; omega
  rw [hnn] at hsrc
  rw [List.length_append, hnn, List.flatten_append]
  rcases h3 with rfl | ⟨eo, rfl⟩
  · simp only [appendA, hu, h2, hs, hb, hz, hsrc, hble, h1]
    simp only [mkRow, hfit, hbb, hrd, tagM_0, rowT_mk, mkRowT_0, St.upd_eq, killQ]
  · simp only [appendA, hu, h2, hs, hb, hz, hsrc, hble, h1]
    simp only [mkRow, hfit, hno, hrd, htg, rowT_mk, mkRowT_0, St.upd_eq, killQ]
theorem killQ_get {h : Heap} {k : Nat} (hi : OwnL h F c es l L) {h2 : Heap} (hk : k ≠ ky F c) : hget (killQ h2 l) k = hget h2 k := by
  obtain ⟨pre, _, _, h3⟩ := hi
  rcases h3 with rfl | ⟨eo, rfl⟩
  · simp only [killQ]; rw [hget_hset, if_neg hk]
  · rfl
theorem same_killQ {h0 : Heap} (hw : Wf ⟨h0, F⟩) {h2 : Heap} (hi : OwnL h F c es l L) (hs : SameH h0 h2) : SameH h0 (killQ h2 l) := by
  obtain ⟨pre, _, _, h3⟩ := hi
  rcases h3 with rfl | ⟨eo, rfl⟩
  · exact SameH.hset hw hs (ky_le F c)
  · exact hs
end
end Go.Ai

/-! A map of numbers, each with a one. -/
namespace Go.Ai
open Go
variable {P : Program} {t : TypeId}
end Go.Ai

/-! What lies below a frame stays; lists in the frames between two numbers. -/
namespace Go.Ai
open Go
variable {P : Program}
/-- all that lies below the frame's names is as it was -/
def Low (F : Nat) (h h' : Heap) : Prop := ∀ i, i < ky F 0 → hget h' i = hget h i
theorem Low.refl (F : Nat) (h : Heap) : Low F h h := fun _ _ => rfl
theorem Low.trans {F : Nat} {a b c : Heap} (h1 : Low F a b) (h2 : Low F b c) : Low F a c := fun i hi => (h2 i hi).trans (h1 i hi)
theorem ky_mono {F G : Nat} (h : F ≤ G) : ky F 0 ≤ ky G 0 := by unfold ky; omega
theorem ky_next (F c : Nat) (hc : c ≤ 1267650600228229401496703205375) : ky F c < ky (F + 1) 0 := by unfold ky; omega
theorem Low.down {F G : Nat} {h h' : Heap} (hl : Low G h h') (hf : F ≤ G) : Low F h h' := fun i hi => hl i (Nat.lt_of_lt_of_le hi (ky_mono hf))
theorem Low.set {F G c : Nat} {h h' : Heap} {b : AB} (hl : Low F h h') (hf : F ≤ G) : Low F h (hset h' (ky G c) b) := fun i hi => by
  rw [hget_hset, if_neg]
  · exact hl i hi
  · intro e
    have h1 := ky_le G c
    have h2 := ky_mono hf
    omega
theorem Low.same {F : Nat} {h h' : Heap} (hw : Wf ⟨h, F⟩) (hl : Low F h h') : SameH h h' := fun i ab hi hd => by
  rw [hl i (hw i ab hi hd)]; exact hi
/-- a call changes nothing of the caller's -/
theorem Low.own {F G c : Nat} {h h' : Heap} (hl : Low G h h') (hf : F < G) (hc : c ≤ 1267650600228229401496703205375) : hget h' (ky F c) = hget h (ky F c) := by
  refine hl _ ?_
  have h1 := ky_next F c hc
  have h2 : ky (F + 1) 0 ≤ ky G 0 := ky_mono hf
  omega
/-- the same in the frames from A on, below B -/
def EqI (A B : Nat) (h h' : Heap) : Prop := ∀ b, ky A 0 ≤ b → b < ky B 0 → hget h' b = hget h b
theorem EqI.refl (A B : Nat) (h : Heap) : EqI A B h h := fun _ _ _ => rfl
theorem EqI.call {A B G : Nat} {h h' h2 : Heap} (he : EqI A B h h') (hl : Low G h' h2) (hg : B ≤ G) : EqI A B h h2 := fun i h1 h3 => by
  rw [hl i (Nat.lt_of_lt_of_le h3 (ky_mono hg))]; exact he i h1 h3
/-- a list in the frames from A on, below B -/
def LstI (A B : Nat) (h : Heap) (ks : List CK) (a : AV) (L : List (List AV)) : Prop := LstP h ks a L ∧ ∀ b o eo n cap, a = .slice b o eo n cap → 0 < n → ky A 0 ≤ b ∧ b < ky B 0
section
variable {A B : Nat} {h h' : Heap} {ks : List CK} {a : AV} {L : List (List AV)}
theorem LstI.p (hl : LstI A B h ks a L) : LstP h ks a L := hl.1
theorem LstI.move (hl : LstI A B h ks a L) (he : EqI A B h h') : LstI A B h' ks a L := by
  refine ⟨⟨hl.1.1, hl.1.2.1, ?_⟩, hl.2⟩
  rcases hl.1.2.2 with c | ⟨b, o, eo, cap, e, r⟩
  · exact .inl c
  · refine .inr ⟨b, o, eo, cap, e, fun hp => ?_⟩
    obtain ⟨h1, h2⟩ := hl.2 b o eo _ cap e hp
    rw [he b h1 h2]; exact r hp
theorem LstI.wide {A' B' : Nat} (hl : LstI A B h ks a L) (hA : A' ≤ A) (hB : B ≤ B') : LstI A' B' h ks a L :=
  ⟨hl.1, fun b o eo n cap e hp => let ⟨h1, h2⟩ := hl.2 b o eo n cap e hp; ⟨Nat.le_trans (ky_mono hA) h1, Nat.lt_of_lt_of_le h2 (ky_mono hB)⟩⟩
/-- an element -/
theorem LstI.at (hl : LstI A B h ks a L) {i : Nat} (hi : i < L.length) : ∃ b o eo cap, a = .slice b o eo L.length cap ∧ ky A 0 ≤ b ∧ b < ky B 0 ∧ rdAB (hget h b) (o + i * ks.length) ks.length = some L[i] ∧
    ∀ off m, off + m ≤ ks.length → rdAB (hget h b) (o + i * ks.length + off) m = some ((L[i].drop off).take m) := by
  obtain ⟨b, o, eo, cap, e, h1, h2⟩ := hl.1.at hi
  obtain ⟨h3, h4⟩ := hl.2 _ _ _ _ _ e (by omega)
  exact ⟨b, o, eo, cap, e, h3, h4, h1, h2⟩
end
end Go.Ai

namespace Go.Ai
open Go
section
variable {P : Program} {G : Glob} {K : CallF} {Q : Ex → Fr → St → Prop} {ops : Array Oper} {rest : List Oper} {i F lc n d j : Nat} {op : Op} {tt : T AV} {df : List (AV × List AV)} {rc : Rc} {s : St} {ty : TypeId} {pos : String} {after : Array Edge} {dst : Option Tmp} {w : Bool} {g : Oper}
/-- a guard that lets the operation run is struck -/
theorem r_gT (hg : ops.toList[j]? = some g) (hd : g.dst = some d) (hv : tt.get d = some (.bool w)) (hk : WR (textOps P G K ops (⟨dst, op, ty, pos, after, none⟩ :: rest) i ⟨F, lc, n, tt, df, rc⟩ s) Q) : WR (textOps P G K ops (⟨dst, op, ty, pos, after, some (j, w)⟩ :: rest) i ⟨F, lc, n, tt, df, rc⟩ s) Q := by
  rw [textOps_guard, wantedA_eq, hg]
  simp only [hd, hv, gBool_b, beq_self_eq_true]
  have h0 : wantedA (⟨F, lc, n, tt, df, rc⟩ : Fr) ops ⟨dst, op, ty, pos, after, none⟩ = true := rfl
  rw [textOps, h0] at hk
  exact hk
end
end Go.Ai

/-! Side goals of the rules, each closed by its own words: the texts of walks stay short. -/
namespace Go.Ai
open Go
theorem sd1 {p : Prop} (h : p := by (first | exact Nat.le_of_ble_eq_true rfl | (simp only [List.length_cons, List.length_nil]; omega))) : p := h
theorem sd2 {p : Prop} (h : p := by simp only [List.append_eq, List.cons_append, List.nil_append] <;> rfl) : p := h
theorem sd3 {p : Prop} (h : p := by simp only [Tget_set, T.get_n, T.get_e, Nat.reduceEqDiff, Nat.reduceDiv, Nat.reduceMod, Nat.reduceSub, ↓reduceIte, if_true, if_false] <;> rfl) : p := h
theorem sd4 {p : Prop} (h : p := by simp only [Nat.add_assoc, Nat.reduceAdd, Nat.zero_add] <;> rfl) : p := h
theorem sd5 {p : Prop} (h : p := by simp only [List.toList_toArray, List.getElem?_cons_zero, List.getElem?_cons_succ] <;> rfl) : p := h
theorem sd6 {p : Prop} (h : p := by simp only [put_mk, put_none, Nat.reduceLT, ↓reduceIte, if_true, if_false] <;> rfl) : p := h
theorem sd7 {p : Prop} (h : p := by exact Nat.le_of_ble_eq_true rfl) : p := h
end Go.Ai

namespace Go.Proofs.YtfhgiadogeephaaGreatDoor
open Go Go.Ai
set_option maxRecDepth 100000

noncomputable def xIdx : List AV → Option AV
  | [.str s, .int .u8 (.ofNat c)] => match Nat.blt c 256 with
    | true => some (.int .i64 (idxB c s 0))
    | false => none
  | _ => none
noncomputable def xCmp : List AV → Option AV
  | [.str s, .str t] => some (.int .i64 (cmpB s t))
  | _ => none
noncomputable def x0f : FuncId → List AV → Option AV := fun f args => match Nat.beq f 333 with
  | true => xIdx args
  | false => match Nat.beq f 375 with
  | true => xCmp args
  | false => none
noncomputable def X0 : Ext := ⟨x0f, fun f => [103, 155].any (Nat.beq f)⟩
noncomputable def selA (f : Nat) : Bool := [343].any (Nat.beq f)
noncomputable def selB (f : Nat) : Bool := [343, 340, 328, 326, 301, 241, 302, 192, 237, 154, 168, 189, 119, 177, 120, 255, 26, 213, 214, 167, 250, 239, 240, 327].any (Nat.beq f)
noncomputable def X1 : Ext := memoX Tryz.prog [] X0 2000 60 selA
noncomputable def X2 : Ext := memoX Tryz.prog [] X1 2000 60 selB

theorem x0_ok : XOK Tryz.prog [] X0 := by
  intro f args v h ρ base w vs rv _ _
  replace h : x0f f args = some v := h
  unfold x0f at h
  split at h
  · rename_i hf
    have hf := Nat.eq_of_beq_eq_true hf
    subst hf
    unfold xIdx at h
    split at h
    · rename_i s c
      split at h
      · rename_i hc
        cases h
        obtain ⟨u1, us, r1, ⟨u2, us2, r2, r3, e2⟩, e1⟩ := rv
        simp only [RV] at r1 r2
        simp only [RVs] at r3
        subst r1 r2 r3 e2 e1
        have := idx_ok (P := Tryz.prog) (f := 333) (fn := Tryz.f333) Tryz.func333 (by kernel_rfl) (by kernel_rfl) (by kernel_rfl) (by kernel_rfl) (l := s) (c := c) (by simpa using hc) w
        show Meets _ ((callFunc 333 #[.string ⟨s.toArray⟩, .int .u8 (c : Int)]).run Tryz.prog w) _
        rw [this]
        exact ⟨_, rfl, rfl, Keeps.refl _ _⟩
      · cases h
    · cases h
  · split at h
    · rename_i hf
      have hf := Nat.eq_of_beq_eq_true hf
      subst hf
      unfold xCmp at h
      split at h
      · rename_i s t
        cases h
        obtain ⟨u1, us, r1, ⟨u2, us2, r2, r3, e2⟩, e1⟩ := rv
        simp only [RV] at r1 r2
        simp only [RVs] at r3
        subst r1 r2 r3 e2 e1
        have := cmp_ok (P := Tryz.prog) (f := 375) (fn := Tryz.f375) Tryz.func375 (by kernel_rfl) (by kernel_rfl) (by kernel_rfl) (by kernel_rfl) (x := s) (y := t) w
        show Meets _ ((callFunc 375 #[.string ⟨s.toArray⟩, .string ⟨t.toArray⟩]).run Tryz.prog w) _
        rw [this]
        exact ⟨_, rfl, rfl, Keeps.refl _ _⟩
      · cases h
    · cases h
theorem mixed : Tryz.prog.follows .mixedOrders = true := by kernel_rfl
def noNumB (P : Program) : Bool := P.funcs.toList.all fun fn => fn.body.isNone || !(fn.name == "runtime.NumGoroutine")
theorem noNum_of {P : Program} (h : noNumB P = true) : NoNum P := by
  intro f fn hf hb
  have := List.all_eq_true.1 h fn (List.mem_of_getElem? (by simpa using hf))
  cases hq : fn.name == "runtime.NumGoroutine" with
  | false => rfl
  | true =>
    rw [hq] at this
    cases hbb : fn.body with
    | none => rw [hbb] at hb; cases hb
    | some c => rw [hbb] at this; simp at this
theorem noNum : NoNum Tryz.prog := noNum_of (by kernel_rfl)
theorem x1_ok : XOK Tryz.prog [] X1 := memo_ok x0_ok mixed noNum 2000 60 selA
theorem x2_ok : XOK Tryz.prog [] X2 := memo_ok x1_ok mixed noNum 2000 60 selB
end Go.Proofs.YtfhgiadogeephaaGreatDoor

