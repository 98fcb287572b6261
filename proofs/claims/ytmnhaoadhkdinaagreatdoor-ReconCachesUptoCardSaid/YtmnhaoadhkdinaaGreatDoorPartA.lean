/- A part of the proof of the law ReconCaches. CONDITIONS: those that each theorem names. -/
import Derived.Lib.SlicesCompact
import Derived.Sort.Row
import Derived.Sort.Grow
import Derived.KernelRfl
import Derived.Test.YtmnhaoadhkdinaaGreatDoorRows
import Derived.Deep.Draws
import Derived.Lib.LaidTab
import Derived.Lib.Join
import Derived.Test.YtmnhaoadhkdinaaGreatDoorEngineA
import Derived.Test.YtmnhaoadhkdinaaGreatDoorEngineB
import Derived.Test.YtmnhaoadhkdinaaGreatDoorEngineC
import Derived.Test.YtmnhaoadhkdinaaGreatDoorEngineD
/-! One rule for an operation, guarded or not. -/
namespace Go.Ai
open Go
variable {P : Program} {G : Glob} {K : CallF} {m : Nat} {Q : Ex → Fr → St → Prop}
noncomputable def stepAny (P : Program) (G : Glob) (K : CallF) (ops : Array Oper) (o : Oper) (i : Nat) (fr : Fr) (s : St) : Option (Fr × St) :=
  match wantedA fr ops o with
  | true => stepOp P G K o.dst o.op i fr s
  | false => match fr.put o.dst .undef with
    | some fr' => some (fr', s)
    | none => none
theorem wantedA_none (fr : Fr) (ops : Array Oper) (dst : Option Tmp) (op : Op) (ty : TypeId) (pos : String) (after : Array Edge) : wantedA fr ops ⟨dst, op, ty, pos, after, none⟩ = true := rfl
section
variable {l : List Oper} {ops : Array Oper} {i : Nat} {fr fr' : Fr} {s s' : St} {o : Oper} {rest : List Oper} {j : Nat} {js : List Nat}
theorem r_any (h : stepAny P G K ops o i fr s = some (fr', s')) (hk : WR (textOps P G K ops rest (i + 1) fr' s') Q) : WR (textOps P G K ops (o :: rest) i fr s) Q := by
  obtain ⟨dst, op, ty, pos, after, g⟩ := o
  unfold stepAny at h
  cases hw : wantedA fr ops ⟨dst, op, ty, pos, after, g⟩ with
  | true =>
    rw [hw] at h
    simp only at h
    cases g with
    | none => exact r_step h hk
    | some g => exact r_stepT hw h hk
  | false =>
    rw [hw] at h
    simp only at h
    cases g with
    | none => rw [wantedA_none] at hw; cases hw
    | some g =>
      split at h
      · rename_i fr1 hp; cases h; exact r_stepF hw hp hk
      · cases h
noncomputable def readSelf (ops : Array Oper) (fr fr' : Fr) (o : Oper) : Bool :=
  match wantedA fr ops o, clsOf o.op, o.dst with
  | true, .read, some d => match fr'.t.get d with
    | some v => avEq v v
    | none => false
  | true, .read, none => false
  | _, _, _ => true
theorem d_any (ho : l[j]? = some o) (h : stepAny P G K l.toArray o j fr s = some (fr', s')) (hv : readSelf l.toArray fr fr' o = true) (hs : SameH s.h s'.h) (hk : DW P G K l Q js fr' s') : DW P G K l Q (j :: js) fr s := by
  unfold stepAny at h
  cases hw : wantedA fr l.toArray o with
  | true =>
    rw [hw] at h
    simp only at h
    refine ⟨o, ho, .inr ⟨hw, fr', s', h, hs, fun v h1 h2 => ?_, hk⟩⟩
    unfold stepOp at h
    rw [h1] at h
    obtain ⟨u, e, hp, _⟩ := stV_some h
    rw [h2] at e
    cases e
    unfold readSelf at hv
    rw [hw, h1] at hv
    cases hd : o.dst with
    | none => rw [hd] at hv; cases hv
    | some d =>
      rw [hd] at hv
      simp only at hv
      have := (put_some' hp).2.2 d
      rw [hd, if_pos rfl] at this
      rw [this] at hv
      exact hv
  | false =>
    rw [hw] at h
    simp only at h
    split at h
    · rename_i fr1 hp; cases h; exact ⟨o, ho, .inl ⟨hw, _, hp, hk⟩⟩
    · cases h
end
theorem av_str {l : List UInt8} : avEq (.str l) (.str l) = true := by simp [avEq]
theorem av_int {k : IntKind} {n : Int} : avEq (.int k n) (.int k n) = true := by simp [avEq]
theorem av_bool {b : Bool} : avEq (.bool b) (.bool b) = true := by simp [avEq]
theorem av_ptr {i o : Nat} : avEq (.ptr i o) (.ptr i o) = true := by simp [avEq]
theorem av_sl {b o eo n : Nat} {cap : Option Nat} : avEq (.slice b o eo n cap) (.slice b o eo n cap) = true := by simp [avEq]
theorem av_nils : avEq .nils .nils = true := rfl
theorem av_nili : avEq .nili .nili = true := rfl
theorem av_agg {l : List AV} : avEq (.agg l) (.agg l) = avsEq l l := by simp [avEq]
theorem av_if {t : Nat} {v : AV} : avEq (.iface t v) (.iface t v) = avEq v v := by simp [avEq]
theorem avs_nil : avsEq [] [] = true := by simp [avsEq]
theorem avs_cons {a : AV} {l : List AV} : avsEq (a :: l) (a :: l) = (avEq a a && avsEq l l) := by simp [avsEq]
end Go.Ai

/-! Rules for the operations that are met most. -/
namespace Go.Ai
open Go
variable {P : Program} {G : Glob} {K : CallF} {Q : Ex → Fr → St → Prop} {ops : Array Oper} {rest : List Oper} {i F lc n : Nat} {t : T AV} {df : List (AV × List AV)} {rc : Rc} {s : St} {ty : TypeId} {pos : String} {after : Array Edge} {x d : Nat} {v : AV}
theorem r_move (hv : t.get x = some v) (hd : d < n) (hk : WR (textOps P G K ops rest (i + 1) ⟨F, lc, n, t.set d v, df, rc⟩ s) Q) : WR (textOps P G K ops (⟨some d, .move (.tmp x), ty, pos, after, none⟩ :: rest) i ⟨F, lc, n, t, df, rc⟩ s) Q := by
  refine r_step (fr' := ⟨F, lc, n, t.set d v, df, rc⟩) (s' := s) ?_ hk
  show stV ⟨F, lc, n, t, df, rc⟩ (some d) s (pureOp P ⟨F, lc, n, t, df, rc⟩ (.move (.tmp x))) = _
  have : pureOp P ⟨F, lc, n, t, df, rc⟩ (.move (.tmp x)) = some v := by
    simp only [pureOp, ev_tmp, hv]
  rw [this, stV_mk, put_mk, if_pos hd]
theorem r_assign (hv : t.get x = some v) (hd : d < n) (hk : WR (textOps P G K ops rest (i + 1) ⟨F, lc, n, t.set d v, df, rc⟩ s) Q) : WR (textOps P G K ops (⟨some d, .assign (.tmp x), ty, pos, after, none⟩ :: rest) i ⟨F, lc, n, t, df, rc⟩ s) Q := by
  refine r_step (fr' := ⟨F, lc, n, t.set d v, df, rc⟩) (s' := s) ?_ hk
  show stV ⟨F, lc, n, t, df, rc⟩ (some d) s (pureOp P ⟨F, lc, n, t, df, rc⟩ (.assign (.tmp x))) = _
  have : pureOp P ⟨F, lc, n, t, df, rc⟩ (.assign (.tmp x)) = some v := by
    simp only [pureOp, ev_tmp, hv]
  rw [this, stV_mk, put_mk, if_pos hd]
theorem r_condT {c : Nat} {b : Bool} {a1 a2 : Code} {m : Nat} (hv : t.get c = some (.bool b)) (h : ifQ b (WR (code P G K m a1 ⟨F, lc, n, t, df, rc⟩ s) Q) (WR (code P G K m a2 ⟨F, lc, n, t, df, rc⟩ s) Q)) : WR (code P G K m (.cond (.tmp c) a1 a2) ⟨F, lc, n, t, df, rc⟩ s) Q := by
  refine r_cond (b := b) ?_ h
  rw [ev_tmp, hv]
end Go.Ai

/-! What a pass's freshness is, in plain words. -/
namespace Go.Ai
open Go
abbrev ksV : List CK := [.i .i64, .i .i64, .s]
abbrev ksW : List CK := [.s, .b, .i .i64, .i .i64, .s]
abbrev ksT : List CK := [.s]
abbrev zeroV : List AV := [.int .i64 0, .int .i64 0, .str []]
def plainB (c : UInt8) : Prop := 32 ≤ c.toNat ∧ c.toNat ≤ 126
def vOk (k n : Int) (t : List UInt8) : Prop := (k = 0 ∧ n = 0 ∧ t = []) ∨ (k = 1 ∧ t = []) ∨ (k = 2 ∧ n = 0 ∧ t.length ≤ 64 ∧ ∀ c ∈ t, plainB c)
def okL : List AV → Prop
  | [.int _ k, .int _ n, .str t] => vOk k n t
  | _ => False
noncomputable def clean (v : List AV) : List AV := open Classical in if okL v then v else zeroV
end Go.Ai

/-! The elements of lists, as they are read. -/
namespace Go.Ai
open Go
theorem rd_low {h : Heap} {F b o n : Nat} {l : List AV} (hw : Wf ⟨h, F⟩) (hr : rdAB (hget h b) o n = some l) : b < ky F 0 := by
  obtain ⟨ab, e, hd⟩ := rdAB_ne hr
  exact hw b ab e hd
variable {h h1 : Heap} {F i : Nat} {a : AV} {L : List (List AV)}
theorem out_eq {v v' : AV} {s : St} (h : v = v') : Out.val v s = Out.val v' s := by rw [h]
theorem av_self_slice {b o eo n : Nat} {cap : Option Nat} : avEq (.slice b o eo n cap) (.slice b o eo n cap) = true := by simp [avEq]
theorem av_self_L {ks : List CK} (hl : LstP h ks a L) : avEq a a = true := by
  rcases hl.2.2 with ⟨rfl | rfl, _⟩ | ⟨b, o, eo, cap, rfl, _⟩
  · rfl
  · rfl
  · exact av_self_slice
theorem sameT {h : Heap} : SameH h h = True := eq_true (SameH.refl h)
theorem sameS {h h' : Heap} {F c : Nat} {b : AB} (hw : Wf ⟨h, F⟩) : SameH h (hset h' (ky F c) b) = SameH h h' := by
  apply propext
  constructor
  · intro hs i ab hi hd
    have := hs i ab hi hd
    have hl := hw i ab hi hd
    have hl2 := ky_le F c
    simp only at hl
    rw [hget_hset, if_neg (by omega)] at this
    exact this
  · intro hs; exact SameH.hset hw hs (ky_le _ _)
theorem rLen1_str {P : Program} {h : Heap} {t : TypeId} {s : List UInt8} : rLen1 P h t (some (.str s)) = lenA P t (.str s) := rfl
theorem rLen1_sl {P : Program} {h : Heap} {t : TypeId} {b o eo n : Nat} {cap : Option Nat} : rLen1 P h t (some (.slice b o eo n cap)) = lenA P t (.slice b o eo n cap) := rfl
end Go.Ai

/-! A table with one more call; new lists. -/
namespace Go.Ai
open Go
variable {P : Program} {G : Glob}
theorem lst_none {h : Heap} {ks : List CK} {b o eo : Nat} {cap : Option Nat} : LstP h ks (.slice b o eo 0 cap) [] := ⟨by simp, by simp, .inr ⟨b, o, eo, cap, rfl, by simp⟩⟩
theorem src_L {h : Heap} {ks : List CK} {a : AV} {L : List (List AV)} (hl : LstP h ks a L) (hp : 0 < L.length) : srcCells h ks.length a = some (L.length, L.flatten) := by
  rcases hl.2.2 with ⟨_, rfl⟩ | ⟨b, o, eo, cap, rfl, hr⟩
  · simp at hp
  · have := hr hp
    obtain ⟨n, hn⟩ : ∃ n, L.length = n + 1 := ⟨L.length - 1, by omega⟩
    rw [hn] at this ⊢
    simp only [srcCells, readCells_eq, Nat.succ_eq_add_one, this]
theorem src_none {h : Heap} {ks : List CK} {a : AV} (hl : LstP h ks a []) : srcCells h ks.length a = some (0, []) := by
  rcases hl.2.2 with ⟨rfl | rfl, _⟩ | ⟨b, o, eo, cap, rfl, hr⟩ <;> rfl
end Go.Ai

/-! Sorted and made single, a list of numbers below n is the numbers below n that stand in it. -/
namespace Go.Ai
open Go
theorem strict_ext : ∀ {a b : List Int}, a.Pairwise (· < ·) → b.Pairwise (· < ·) → (∀ x, x ∈ a ↔ x ∈ b) → a = b
  | [], [], _, _, _ => rfl
  | [], b :: bs, _, _, h => absurd ((h b).2 List.mem_cons_self) (by simp)
  | a :: ar, [], _, _, h => absurd ((h a).1 List.mem_cons_self) (by simp)
  | a :: ar, b :: bs, ha, hb, h => by
    rw [List.pairwise_cons] at ha hb
    have e : a = b := by
      rcases List.mem_cons.1 ((h a).1 List.mem_cons_self) with e | e
      · exact e
      · rcases List.mem_cons.1 ((h b).2 List.mem_cons_self) with e' | e'
        · exact e'.symm
        · have := hb.1 a e
          have := ha.1 b e'
          omega
    subst e
    rw [strict_ext ha.2 hb.2 fun x => ?_]
    constructor
    · intro hx
      rcases List.mem_cons.1 ((h x).1 (List.mem_cons_of_mem _ hx)) with e | e
      · have := ha.1 x hx; omega
      · exact e
    · intro hx
      rcases List.mem_cons.1 ((h x).2 (List.mem_cons_of_mem _ hx)) with e | e
      · have := hb.1 x hx; omega
      · exact e
theorem compact_eq (zs : List Int) : Lib.compact zs = ((List.range zs.length).filter (Lib.keeps zs.toArray)).map (zs[·]!) := by
  unfold Lib.compact Lib.compactUpTo
  refine List.map_congr_left fun i _ => ?_
  simp
theorem keeps_iff (zs : List Int) (i : Nat) : Lib.keeps zs.toArray i = true ↔ i = 0 ∨ zs[i]! ≠ zs[i - 1]! := by
  simp [Lib.keeps]
theorem get!_mem {zs : List Int} {i : Nat} (h : i < zs.length) : zs[i]! ∈ zs := by
  rw [getElem!_pos zs i h]; exact List.getElem_mem h
theorem mem_compact (zs : List Int) (x : Int) : x ∈ Lib.compact zs ↔ x ∈ zs := by
  rw [compact_eq]
  constructor
  · intro hx
    obtain ⟨i, hi, rfl⟩ := List.mem_map.1 hx
    have := List.mem_range.1 (List.mem_filter.1 hi).1
    exact get!_mem this
  · intro hx
    obtain ⟨i, hi, rfl⟩ := List.getElem_of_mem hx
    suffices h : ∀ m i (hi : i < zs.length), i < m → zs[i] ∈ ((List.range zs.length).filter (Lib.keeps zs.toArray)).map (zs[·]!) from h (i + 1) i hi (by omega)
    intro m
    induction m with
    | zero => intro i _ h; omega
    | succ m ih =>
      intro i hi hm
      by_cases hk : Lib.keeps zs.toArray i = true
      · exact List.mem_map.2 ⟨i, List.mem_filter.2 ⟨List.mem_range.2 hi, hk⟩, getElem!_pos zs i hi⟩
      · have h := (not_congr (keeps_iff zs i)).1 hk
        have h0 : i ≠ 0 := fun e => h (.inl e)
        have h1 : zs[i]! = zs[i - 1]! := Decidable.of_not_not fun e => h (.inr e)
        rw [getElem!_pos zs i hi, getElem!_pos zs (i - 1) (by omega)] at h1
        rw [h1]
        exact ih (i - 1) (by omega) (by omega)
theorem compact_strict {zs : List Int} (h : zs.Pairwise (· ≤ ·)) : (Lib.compact zs).Pairwise (· < ·) := by
  rw [compact_eq, List.pairwise_map, List.pairwise_filter]
  refine List.Pairwise.imp_of_mem (R := (· < ·)) (fun {i j} hi hj hlt _ hk => ?_) List.pairwise_lt_range
  have hi := List.mem_range.1 hi
  have hj := List.mem_range.1 hj
  rw [List.pairwise_iff_getElem] at h
  have hle : ∀ a b (ha : a < zs.length) (hb : b < zs.length), a ≤ b → zs[a] ≤ zs[b] := fun a b ha hb hab => by
    rcases Nat.lt_or_eq_of_le hab with c | c
    · exact h a b ha hb c
    · subst c; exact Int.le_refl _
  rcases (keeps_iff zs j).1 hk with e | e
  · omega
  · have hj1 : j - 1 < zs.length := by omega
    rw [getElem!_pos zs j hj, getElem!_pos zs (j - 1) hj1] at e
    rw [getElem!_pos zs i hi, getElem!_pos zs j hj]
    have a1 := hle i (j - 1) hi hj1 (by omega)
    have a2 := hle (j - 1) j hj1 hj (by omega)
    omega
noncomputable def sorted (zs : List Int) : List Int := zs.mergeSort fun x y => decide (x ≤ y)
theorem sorted_le (zs : List Int) : (sorted zs).Pairwise (· ≤ ·) := by
  have := List.pairwise_mergeSort (le := fun x y : Int => decide (x ≤ y)) (fun a b c h1 h2 => by simp at *; omega) (fun a b => by simp; omega) zs
  exact this.imp fun h => by simpa using h
theorem sorted_mem (zs : List Int) (x : Int) : x ∈ sorted zs ↔ x ∈ zs := List.mem_mergeSort
/-- the numbers below n that stand in a list -/
noncomputable def below (zs : List Int) (n : Nat) : List Int := ((List.range n).map Int.ofNat).filter fun x => decide (x ∈ zs)
theorem single {zs : List Int} {n : Nat} (h : ∀ z ∈ zs, 0 ≤ z ∧ z < n) : Lib.compact (sorted zs) = below zs n := by
  refine strict_ext (compact_strict (sorted_le zs)) ?_ fun x => ?_
  · unfold below
    refine List.Pairwise.filter _ ?_
    rw [List.pairwise_map]
    exact List.pairwise_lt_range.imp fun h => by simpa using h
  · rw [mem_compact, sorted_mem]
    unfold below
    rw [List.mem_filter, decide_eq_true_eq]
    constructor
    · intro hx
      obtain ⟨h0, h1⟩ := h x hx
      exact ⟨List.mem_map.2 ⟨x.toNat, List.mem_range.2 (by omega), by simp; omega⟩, hx⟩
    · exact fun h => h.2
end Go.Ai

/-! Calls that make one new block; the library's sort. -/
namespace Go.Ai
open Go
variable {P : Program} {G : Glob}

/-! ### the library's sort of numbers -/
theorem mkRow_inj {a b : List AV} {es es' : Nat} (h : mkRow a es = mkRow b es') : a = b := by
  have hl : a.length = b.length := by unfold mkRow at h; injection h
  have h1 := rdAB_row a es 0 a.length
  have h2 := rdAB_row b es' 0 b.length
  rw [if_pos (by omega), List.drop_zero, List.take_of_length_le (by omega)] at h1 h2
  rw [h, hl, h2] at h1
  exact (Option.some.inj h1).symm
end Go.Ai

/-! The partition of a key. -/
namespace Go.Ai
open Go
variable {P : Program}
/-- a number that the kernel doesn't look into -/
noncomputable def lock (x : Int) : Int := Classical.choose (⟨x, rfl⟩ : ∃ y, y = x)
noncomputable def xorU (a b : Int) : Int := lock (IntKind.u64.wrap ((BitVec.ofInt 64 a ^^^ BitVec.ofInt 64 b).toNat : Int))
noncomputable def mulU (a b : Int) : Int := lock (IntKind.u64.wrap (a * b))
noncomputable def remU (a b : Int) : Int := lock (a.tmod b)
noncomputable def wrapL (k : IntKind) (n : Int) : Int := lock (k.wrap n)
noncomputable def hstep (h : Int) (c : UInt8) : Int := mulU (xorU h (wrapL .u64 (c.toNat : Int))) 1099511628211
noncomputable def hashI (s : List UInt8) : Int := lock (s.foldl hstep 14695981039346656037)
noncomputable def partI (s : List UInt8) (n : Int) : Int := wrapL .i64 (remU (hashI s) (wrapL .u64 n))
noncomputable def partOf (n : Int) (l : List AV) : Int := match l with
  | [.str s] => partI s n
  | _ => 0
noncomputable def parts (n : Int) (L : List (List AV)) : List Int := L.map (partOf n)
end Go.Ai

/-! Lists of numbers that grow; rounds that are known. -/
namespace Go.Ai
open Go
variable {P : Program} {G : Glob} {K : CallF} {m : Nat} {Q : Ex → Fr → St → Prop}

/-! ### a loop, round by round -/
/-! ### append -/
section
variable {t e t2 e2 : TypeId} {es by' key : Nat} {s : St} {b : AV}
theorem app_same (hu : P.underlying t = some (.slice e)) (h2 : P.underlying t2 = some (.slice e2)) (hs : sizeT P e = some es) (hb : bytesT P e = some by') (hz : zeroOk P e es by' = true)
    {id off eo len : Nat} {cap : Option Nat} {news : List AV} (hsrc : srcCells s.h es b = some (0, news)) (hn : len ≤ 100000) (hby : by' ≤ 1000) : appendA P t t2 key s (.slice id off eo len cap) b = some (.slice id off eo len cap, s) := by
  have hble : Nat.ble ((2 * (len + 0) + 1024) * by') 281474976710656 = true := by
    rw [Nat.ble_eq]; exact Nat.le_trans (Nat.mul_le_mul (by omega : 2 * (len + 0) + 1024 ≤ 201024) hby) (by decide)
  simp only [appendA, hu, h2, hs, hb, hz, hsrc, hble]
theorem app_cap0 (hu : P.underlying t = some (.slice e)) (h2 : P.underlying t2 = some (.slice e2)) (hs : sizeT P e = some es) (hb : bytesT P e = some by') (hz : zeroOk P e es by' = true)
    {id n : Nat} {news : List AV} (hsrc : srcCells s.h es b = some (n, news)) (hp : 0 < n) (hid : hget s.h id = some (mkRow [] es)) (hn : n ≤ 100000) (hby : by' ≤ 1000) (htg : tagA P e = 0 := by kernel_rfl) :
    appendA P t t2 key s (.slice id 0 0 0 (some 0)) b = some (.slice key 0 0 n none, s.upd key (mkRow news es)) := by
  obtain ⟨n, rfl⟩ : ∃ k, n = k + 1 := ⟨n - 1, by omega⟩
  have hble : Nat.ble ((2 * (0 + (n + 1)) + 1024) * by') 281474976710656 = true := by
    rw [Nat.ble_eq]; exact Nat.le_trans (Nat.mul_le_mul (by omega : 2 * (0 + (n + 1)) + 1024 ≤ 201024) hby) (by decide)
  have h0 : readCells s.h id 0 (0 * es) = some [] := by rw [readCells_eq, hid, Nat.zero_mul, rdAB_row]; rfl
  have h1 : Nat.ble (n + 1) 0 = false := rfl
  simp only [appendA, hu, h2, hs, hb, hz, hsrc, hble, hid, mkRow]
  simp only [Nat.zero_add, h1, h0, List.nil_append, htg, rowT_mk, mkRowT_0, mkRow]
end

/-! ### a list of numbers of this frame -/
end Go.Ai

/-! Small rules. -/
namespace Go.Ai
open Go
theorem natOf_c (k : IntKind) (i : Nat) : natOf (.int k (i : Int)) = some i := rfl
end Go.Ai

/-! Calls of which something is said; regions that draw their order, with such calls. -/
namespace Go.Ai
open Go
variable {P : Program} {G : Glob} {K : CallF} {m : Nat} {Q : Ex → Fr → St → Prop}
/-- a table whose outcomes are known by what is said of them -/
noncomputable def KUf (P : Program) (G : Glob) (S : FuncId → List AV → St → Out → Prop) : FuncId → List AV → St → Outs := fun f args s =>
  open Classical in if h : ∃ outs, Snd P G f args s outs ∧ ∀ o ∈ outs, S f args s o then some h.choose else none
noncomputable def KU (P : Program) (G : Glob) (S : FuncId → List AV → St → Out → Prop) : CallF := ⟨KUf P G S, fun _ _ _ => none⟩
theorem ku_ok {S : FuncId → List AV → St → Out → Prop} : KOK P G (KU P G S) := KOK.table fun f args s outs h => by
  unfold KUf at h
  split at h
  · rename_i he
    cases h
    exact he.choose_spec.1
  · cases h
theorem ku_hit {S : FuncId → List AV → St → Out → Prop} {f : FuncId} {args : List AV} {s : St} (h : SndQ P G f args s (S f args s)) : ∃ outs, KUf P G S f args s = some outs ∧ ∀ o ∈ outs, S f args s o := by
  have he : ∃ outs, Snd P G f args s outs ∧ ∀ o ∈ outs, S f args s o := h
  exact ⟨he.choose, by unfold KUf; rw [dif_pos he], he.choose_spec.2⟩
/-- the outcomes of an operation that calls -/
noncomputable def callOuts (P : Program) (K : CallF) (fr : Fr) (i : Nat) (s : St) : Op → Outs
  | .call c => match c.callee with
    | .builtin _ => none
    | _ => callTo K s (target P fr c)
  | _ => none
/-- behind a call -/
def backQ (fr : Fr) (dst : Option Tmp) (k : Fr → St → Prop) : Out → Prop
  | .val v s' => ∃ fr', fr.put dst v = some fr' ∧ k fr' s'
  | .pan _ _ => False
theorem callOuts_one {dst : Option Tmp} {op : Op} {i : Nat} {fr : Fr} {s : St} {outs : List Out} (h : callOuts P K fr i s op = some outs) (k : Fr → St → Res) : oneOp P G K dst op i fr s k = outsTo (fun v s => putK s k (fr.put dst v)) fr outs := by
  unfold callOuts at h
  split at h
  · rename_i c
    split at h
    · cases h
    · rename_i hcal
      have hc : clsOf (.call c) = .heavy := by
        cases hcc : c.callee with
        | builtin b => exact absurd hcc (hcal b)
        | _ => simp [clsOf, clsCall, hcc]
      have hh : heavyCall P K fr (keyOf fr i) s c = some outs := by
        unfold heavyCall
        split
        · rename_i b hb; exact absurd hb (hcal b)
        · exact h
      unfold oneOp
      rw [hc]
      simp only [oneHeavy, oneCall]
      split
      · rename_i hb; exact absurd hb (hcal _)
      · rw [hh]; rfl
  · cases h
theorem wr_outs {f : AV → St → Res} {fr : Fr} {dst : Option Tmp} {k : Fr → St → Prop} (hf : ∀ v s fr', fr.put dst v = some fr' → k fr' s → WR (f v s) Q) : ∀ {outs : List Out}, (∀ o ∈ outs, backQ fr dst k o) → WR (outsTo f fr outs) Q
  | [], _ => ⟨[], rfl, fun _ _ _ h => by cases h⟩
  | .pan v s :: rest, h => (h _ List.mem_cons_self).elim
  | .val v s :: rest, h => by
    obtain ⟨fr', hp, hk⟩ := h _ List.mem_cons_self
    obtain ⟨l1, e1, h1⟩ := hf v s fr' hp hk
    simp only [outsTo, e1]
    cases rest with
    | nil => exact ⟨l1, rfl, h1⟩
    | cons y ys =>
      obtain ⟨l2, e2, h2⟩ := wr_outs hf (outs := y :: ys) fun o ho => h o (List.mem_cons_of_mem _ ho)
      simp only [e2]
      exact ⟨_, rfl, fun e fr s hm => by
        rcases List.mem_append.1 hm with q | q
        · exact h1 e fr s q
        · exact h2 e fr s q⟩
theorem wr_douts {f : AV → St → Res} {fr : Fr} {dst : Option Tmp} {k : Fr → St → Prop} {bh : Bool} (hf : ∀ v s fr', fr.put dst v = some fr' → k fr' s → WR (f v s) Q) : ∀ {outs : List Out}, (∀ o ∈ outs, backQ fr dst k o) → WR (drawOuts f fr bh outs) Q
  | [], _ => ⟨[], rfl, fun _ _ _ h => by cases h⟩
  | .pan v s :: rest, h => (h _ List.mem_cons_self).elim
  | .val v s :: rest, h => by
    obtain ⟨fr', hp, hk⟩ := h _ List.mem_cons_self
    obtain ⟨l1, e1, h1⟩ := hf v s fr' hp hk
    simp only [drawOuts, e1]
    cases rest with
    | nil => exact ⟨l1, rfl, h1⟩
    | cons y ys =>
      obtain ⟨l2, e2, h2⟩ := wr_douts (bh := bh) hf (outs := y :: ys) fun o ho => h o (List.mem_cons_of_mem _ ho)
      simp only [e2]
      exact ⟨_, rfl, fun e fr s hm => by
        rcases List.mem_append.1 hm with q | q
        · exact h1 e fr s q
        · exact h2 e fr s q⟩
section
variable {S : FuncId → List AV → St → Out → Prop} {l : List Oper} {ops : Array Oper} {i : Nat} {fr fr' : Fr} {s s' : St} {o : Oper} {rest : List Oper} {j : Nat} {js : List Nat} {f : FuncId} {args : List AV}
theorem callOuts_heavy {op : Op} {outs : List Out} (h : callOuts P K fr i s op = some outs) : clsOf op = .heavy ∧ heavy P K fr (keyOf fr i) s op = some outs := by
  unfold callOuts at h
  split at h
  · rename_i c
    split at h
    · cases h
    · rename_i hcal
      have hh : heavyCall P K fr (keyOf fr i) s c = some outs := by
        unfold heavyCall
        split
        · rename_i b hb; exact absurd hb (hcal b)
        · exact h
      refine ⟨?_, hh⟩
      cases hcc : c.callee with
      | builtin b => exact absurd hcc (hcal b)
      | _ => simp [clsOf, clsCall, hcc]
  · cases h
end
end Go.Ai

/-! All that stand behind one: the search and the marks tell the same. -/
namespace Go.Ai
open Go
/-- what stands behind: by edges that lead down -/
inductive Reach (M : List (List Int)) (s : Nat) : Nat → Prop where
  | base : Reach M s s
  | step {n k : Nat} {l : List Int} : Reach M s n → M[n]? = some l → (k : Int) ∈ l → k < n → Reach M s k
noncomputable def behind (M : List (List Int)) (s : Nat) : List Int := ((List.range s).filter fun k => dec (Reach M s k)).map Int.ofNat
/-! ### the search -/
/-! ### the marks -/
end Go.Ai

/-! Rows of truth values; lists of lists. -/
namespace Go.Ai
open Go
variable {P : Program} {G : Glob}
/-! ### lists of lists -/
section
variable {h h1 : Heap} {ks : List CK} {a : AV} {LL : List (List (List AV))}
end
/-! ### causes: a text and a number -/
end Go.Ai
namespace Go.Ai
open Go
end Go.Ai
namespace Go.Ai
open Go
variable {P : Program}
end Go.Ai
namespace Go.Ai
open Go
end Go.Ai
namespace Go.Ai
open Go
end Go.Ai

/-! Lists that a function grows in blocks of its own. -/
namespace Go.Ai
open Go
variable {P : Program}
def OwnL (h : Heap) (F c es : Nat) (l : AV) (L : List (List AV)) : Prop :=
  ∃ pre : List (List AV), hget h (ky F c) = some (mkRow (pre ++ L).flatten es) ∧ (∀ x ∈ pre ++ L, x.length = es) ∧
    (l = .slice (ky F c) (pre.length * es) pre.length L.length none ∨ ∃ eo, l = .slice (ky F c) (pre.length * es) eo L.length (some L.length))
noncomputable def killQ (h : Heap) : AV → Heap
  | .slice k _ _ _ none => hset h k .dead
  | _ => h
theorem flat_length {L : List (List AV)} {es : Nat} (h : ∀ x ∈ L, x.length = es) : L.flatten.length = L.length * es := (flatten_get h).1
section
variable {h h' : Heap} {F c es : Nat} {l : AV} {L N : List (List AV)}
theorem OwnL.move (hi : OwnL h F c es l L) (he : hget h' (ky F c) = hget h (ky F c)) : OwnL h' F c es l L := by
  obtain ⟨pre, h1, h2, h3⟩ := hi
  exact ⟨pre, by rw [he]; exact h1, h2, h3⟩
theorem OwnL.new {cap : Option Nat} (hL : ∀ x ∈ L, x.length = es) (hg : hget h (ky F c) = some (mkRow L.flatten es)) (hc : cap = none ∨ cap = some L.length) : OwnL h F c es (.slice (ky F c) 0 0 L.length cap) L := by
  refine ⟨[], hg, by simpa using hL, ?_⟩
  rcases hc with rfl | rfl
  · left; simp
  · right; exact ⟨0, by simp⟩
/-- the cells of the list, from its place on -/
theorem OwnL.cells (hi : OwnL h F c es l L) : ∃ pre : List (List AV), ∃ eo cap, l = .slice (ky F c) (pre.length * es) eo L.length cap ∧ rdAB (hget h (ky F c)) (pre.length * es) (L.length * es) = some L.flatten := by
  obtain ⟨pre, h1, h2, h3⟩ := hi
  have e1 : pre.flatten.length = pre.length * es := flat_length fun x hx => h2 x (List.mem_append_left _ hx)
  have e2 : L.flatten.length = L.length * es := flat_length fun x hx => h2 x (List.mem_append_right _ hx)
  have hr : rdAB (hget h (ky F c)) (pre.length * es) (L.length * es) = some L.flatten := by
    rw [h1, rdAB_row, if_pos (by rw [List.flatten_append, List.length_append]; omega), List.flatten_append, ← e1, List.drop_append_of_le_length (Nat.le_refl _), List.drop_length, List.nil_append, ← e2, List.take_length]
  rcases h3 with rfl | ⟨eo, rfl⟩
  · exact ⟨pre, _, _, rfl, hr⟩
  · exact ⟨pre, _, _, rfl, hr⟩
theorem OwnL.lst {ks : List CK} (hi : OwnL h F c ks.length l L) (hok : ∀ x ∈ L, cksOk ks x) (hm : L.length ≤ maxLen) : LstP h ks l L := by
  obtain ⟨pre, eo, cap, rfl, hr⟩ := hi.cells
  exact ⟨hok, hm, .inr ⟨_, _, _, _, rfl, fun _ => hr⟩⟩
/-- APPEND: a new block; the old one is gone, where its room was not known. -/
theorem app_own {t t2 e e2 by' key : Nat} {s : St} {b : AV} (hu : P.underlying t = some (.slice e)) (h2 : P.underlying t2 = some (.slice e2)) (hs : sizeT P e = some es) (hb : bytesT P e = some by') (hz : zeroOk P e es by' = true)
    (hi : OwnL s.h F c es l L) (hsrc : srcCells s.h es b = some (N.length, N.flatten)) (hp : 0 < N.length) (hes : 0 < es) (hN : ∀ x ∈ N, x.length = es) (hc : allCell N.flatten = true) (hn : L.length + N.length ≤ 100000000) (hby : by' ≤ 1000) (htg : tagA P e = 0 := by kernel_rfl) :
    appendA P t t2 key s l b = some (.slice key 0 0 (L ++ N).length none, ⟨hset (killQ s.h l) key (mkRow (L ++ N).flatten es), s.fc⟩) := by
  obtain ⟨pre, h1, hl, h3⟩ := hi
  obtain ⟨n, hnn⟩ : ∃ k, N.length = k + 1 := ⟨N.length - 1, by omega⟩
  have e1 : pre.flatten.length = pre.length * es := flat_length fun x hx => hl x (List.mem_append_left _ hx)
  have e2 : L.flatten.length = L.length * es := flat_length fun x hx => hl x (List.mem_append_right _ hx)
  have hble : Nat.ble ((2 * (L.length + (n + 1)) + 1024) * by') 281474976710656 = true := by
    rw [Nat.ble_eq]; exact Nat.le_trans (Nat.mul_le_mul (by omega : 2 * (L.length + (n + 1)) + 1024 ≤ 200001024) hby) (by decide)
  have hrow : (pre ++ L).flatten.length = pre.length * es + L.length * es := by rw [List.flatten_append, List.length_append, e1, e2]
  have hfit : Nat.ble (pre.length * es + (L.length + (n + 1)) * es) (pre ++ L).flatten.length = false := by
    have : ¬ (pre.length * es + (L.length + (n + 1)) * es ≤ (pre ++ L).flatten.length) := by
      rw [hrow, Nat.add_mul L.length]
      have : 0 < (n + 1) * es := Nat.mul_pos (by omega) hes
      omega
    cases hq : Nat.ble (pre.length * es + (L.length + (n + 1)) * es) (pre ++ L).flatten.length with
    | false => rfl
    | true => exact absurd (Nat.le_of_ble_eq_true hq) this
  have hrd : readCells s.h (ky F c) (pre.length * es) (L.length * es) = some L.flatten := by
    rw [readCells_eq, h1, rdAB_row, if_pos (by omega), List.flatten_append, ← e1, List.drop_append_of_le_length (Nat.le_refl _), List.drop_length, List.nil_append, ← e2, List.take_length]
  have hbb : (Nat.beq es es && Nat.beq (pre.length * es) (pre.length * es) && allCell N.flatten) = true := by rw [hc]; simp
  have hno : Nat.ble (L.length + (n + 1)) L.length = false := by
    cases hq : Nat.ble (L.length + (n + 1)) L.length with
    | false => rfl
    | true => have := Nat.le_of_ble_eq_true hq; omega
  rw [hnn] at hsrc
  rw [List.length_append, hnn, List.flatten_append]
  rcases h3 with rfl | ⟨eo, rfl⟩
  · simp only [appendA, hu, h2, hs, hb, hz, hsrc, hble, h1]
    simp only [mkRow, hfit, hbb, hrd, tagM_0, rowT_mk, mkRowT_0, St.upd_eq, killQ]
  · simp only [appendA, hu, h2, hs, hb, hz, hsrc, hble, h1]
    simp only [mkRow, hfit, hno, hrd, htg, rowT_mk, mkRowT_0, St.upd_eq, killQ]
theorem killQ_get {h : Heap} {k : Nat} (hi : OwnL h F c es l L) {h2 : Heap} (hk : k ≠ ky F c) : hget (killQ h2 l) k = hget h2 k := by
  obtain ⟨pre, _, _, h3⟩ := hi
  rcases h3 with rfl | ⟨eo, rfl⟩
  · simp only [killQ]; rw [hget_hset, if_neg hk]
  · rfl
end
end Go.Ai

/-! A map of numbers, each with a one. -/
namespace Go.Ai
open Go
variable {P : Program} {t : TypeId}
end Go.Ai

/-! What lies below a frame stays; lists in the frames between two numbers. -/
namespace Go.Ai
open Go
variable {P : Program}
/-- all that lies below the frame's names is as it was -/
def Low (F : Nat) (h h' : Heap) : Prop := ∀ i, i < ky F 0 → hget h' i = hget h i
theorem Low.refl (F : Nat) (h : Heap) : Low F h h := fun _ _ => rfl
theorem Low.trans {F : Nat} {a b c : Heap} (h1 : Low F a b) (h2 : Low F b c) : Low F a c := fun i hi => (h2 i hi).trans (h1 i hi)
theorem ky_mono {F G : Nat} (h : F ≤ G) : ky F 0 ≤ ky G 0 := by unfold ky; omega
theorem ky_next (F c : Nat) (hc : c ≤ 1267650600228229401496703205375) : ky F c < ky (F + 1) 0 := by unfold ky; omega
theorem Low.down {F G : Nat} {h h' : Heap} (hl : Low G h h') (hf : F ≤ G) : Low F h h' := fun i hi => hl i (Nat.lt_of_lt_of_le hi (ky_mono hf))
theorem Low.set {F G c : Nat} {h h' : Heap} {b : AB} (hl : Low F h h') (hf : F ≤ G) : Low F h (hset h' (ky G c) b) := fun i hi => by
  rw [hget_hset, if_neg]
  · exact hl i hi
  · intro e
    have h1 := ky_le G c
    have h2 := ky_mono hf
    omega
theorem Low.same {F : Nat} {h h' : Heap} (hw : Wf ⟨h, F⟩) (hl : Low F h h') : SameH h h' := fun i ab hi hd => by
  rw [hl i (hw i ab hi hd)]; exact hi
/-- a call changes nothing of the caller's -/
theorem Low.own {F G c : Nat} {h h' : Heap} (hl : Low G h h') (hf : F < G) (hc : c ≤ 1267650600228229401496703205375) : hget h' (ky F c) = hget h (ky F c) := by
  refine hl _ ?_
  have h1 := ky_next F c hc
  have h2 : ky (F + 1) 0 ≤ ky G 0 := ky_mono hf
  omega
/-- the same in the frames from A on, below B -/
def EqI (A B : Nat) (h h' : Heap) : Prop := ∀ b, ky A 0 ≤ b → b < ky B 0 → hget h' b = hget h b
theorem EqI.refl (A B : Nat) (h : Heap) : EqI A B h h := fun _ _ _ => rfl
theorem EqI.trans {A B : Nat} {a b c : Heap} (h1 : EqI A B a b) (h2 : EqI A B b c) : EqI A B a c := fun i hi hj => (h2 i hi hj).trans (h1 i hi hj)
theorem EqI.set {A B F c : Nat} {h h' : Heap} {b : AB} (he : EqI A B h h') (hf : F < A ∨ B ≤ F) (hc : c ≤ 1267650600228229401496703205375) : EqI A B h (hset h' (ky F c) b) := fun i h1 h2 => by
  rw [hget_hset, if_neg]
  · exact he i h1 h2
  · intro e
    have h3 := ky_le F c
    have h4 := ky_next F c hc
    rcases hf with hf | hf
    · have : ky (F + 1) 0 ≤ ky A 0 := ky_mono hf
      omega
    · have := ky_mono hf
      omega
theorem EqI.call {A B G : Nat} {h h' h2 : Heap} (he : EqI A B h h') (hl : Low G h' h2) (hg : B ≤ G) : EqI A B h h2 := fun i h1 h3 => by
  rw [hl i (Nat.lt_of_lt_of_le h3 (ky_mono hg))]; exact he i h1 h3
/-- a list in the frames from A on, below B -/
def LstI (A B : Nat) (h : Heap) (ks : List CK) (a : AV) (L : List (List AV)) : Prop := LstP h ks a L ∧ ∀ b o eo n cap, a = .slice b o eo n cap → 0 < n → ky A 0 ≤ b ∧ b < ky B 0
section
variable {A B : Nat} {h h' : Heap} {ks : List CK} {a : AV} {L : List (List AV)}
theorem LstI.p (hl : LstI A B h ks a L) : LstP h ks a L := hl.1
theorem LstI.move (hl : LstI A B h ks a L) (he : EqI A B h h') : LstI A B h' ks a L := by
  refine ⟨⟨hl.1.1, hl.1.2.1, ?_⟩, hl.2⟩
  rcases hl.1.2.2 with c | ⟨b, o, eo, cap, e, r⟩
  · exact .inl c
  · refine .inr ⟨b, o, eo, cap, e, fun hp => ?_⟩
    obtain ⟨h1, h2⟩ := hl.2 b o eo _ cap e hp
    rw [he b h1 h2]; exact r hp
theorem LstI.wide {A' B' : Nat} (hl : LstI A B h ks a L) (hA : A' ≤ A) (hB : B ≤ B') : LstI A' B' h ks a L :=
  ⟨hl.1, fun b o eo n cap e hp => let ⟨h1, h2⟩ := hl.2 b o eo n cap e hp; ⟨Nat.le_trans (ky_mono hA) h1, Nat.lt_of_lt_of_le h2 (ky_mono hB)⟩⟩
theorem ky_zero : ky 0 0 = 0 := by unfold ky; rfl
/-- what a state holds lies below its frames -/
theorem LstP.below {F : Nat} (hw : Wf ⟨h, F⟩) (hl : LstP h ks a L) (hk : 0 < ks.length) : LstI 0 F h ks a L := by
  refine ⟨hl, fun b o eo n cap e hp => ⟨by rw [ky_zero]; exact Nat.zero_le _, ?_⟩⟩
  rcases hl.2.2 with ⟨c | c, _⟩ | ⟨b', o', eo', cap', e', r⟩
  · rw [e] at c; cases c
  · rw [e] at c; cases c
  · rw [e] at e'
    cases e'
    exact rd_low hw (r hp)
/-- an element -/
theorem LstI.at (hl : LstI A B h ks a L) {i : Nat} (hi : i < L.length) : ∃ b o eo cap, a = .slice b o eo L.length cap ∧ ky A 0 ≤ b ∧ b < ky B 0 ∧ rdAB (hget h b) (o + i * ks.length) ks.length = some L[i] ∧
    ∀ off m, off + m ≤ ks.length → rdAB (hget h b) (o + i * ks.length + off) m = some ((L[i].drop off).take m) := by
  obtain ⟨b, o, eo, cap, e, h1, h2⟩ := hl.1.at hi
  obtain ⟨h3, h4⟩ := hl.2 _ _ _ _ _ e (by omega)
  exact ⟨b, o, eo, cap, e, h3, h4, h1, h2⟩
end
end Go.Ai

namespace Go.Ai
open Go
theorem gBool_u (w : Bool) : gBool (some .undef) w = false := by cases w <;> rfl
section
variable {P : Program} {G : Glob} {K : CallF} {Q : Ex → Fr → St → Prop} {ops : Array Oper} {rest : List Oper} {i F lc n d j : Nat} {op : Op} {tt : T AV} {df : List (AV × List AV)} {rc : Rc} {s : St} {ty : TypeId} {pos : String} {after : Array Edge} {dst : Option Tmp} {w : Bool} {g : Oper}
/-- a guard that lets the operation run is struck -/
theorem r_gT (hg : ops.toList[j]? = some g) (hd : g.dst = some d) (hv : tt.get d = some (.bool w)) (hk : WR (textOps P G K ops (⟨dst, op, ty, pos, after, none⟩ :: rest) i ⟨F, lc, n, tt, df, rc⟩ s) Q) : WR (textOps P G K ops (⟨dst, op, ty, pos, after, some (j, w)⟩ :: rest) i ⟨F, lc, n, tt, df, rc⟩ s) Q := by
  rw [textOps_guard, wantedA_eq, hg]
  simp only [hd, hv, gBool_b, beq_self_eq_true]
  have h0 : wantedA (⟨F, lc, n, tt, df, rc⟩ : Fr) ops ⟨dst, op, ty, pos, after, none⟩ = true := rfl
  rw [textOps, h0] at hk
  exact hk
end
end Go.Ai

/-! Side goals of the rules, each closed by its own words: the texts of walks stay short. -/
namespace Go.Ai
open Go
theorem sd1 {p : Prop} (h : p := by (first | exact Nat.le_of_ble_eq_true rfl | (simp only [List.length_cons, List.length_nil]; omega))) : p := h
theorem sd2 {p : Prop} (h : p := by simp only [List.append_eq, List.cons_append, List.nil_append] <;> rfl) : p := h
theorem sd3 {p : Prop} (h : p := by simp only [Tget_set, T.get_n, T.get_e, Nat.reduceEqDiff, Nat.reduceDiv, Nat.reduceMod, Nat.reduceSub, ↓reduceIte, if_true, if_false] <;> rfl) : p := h
theorem sd4 {p : Prop} (h : p := by simp only [Nat.add_assoc, Nat.reduceAdd, Nat.zero_add] <;> rfl) : p := h
theorem sd5 {p : Prop} (h : p := by simp only [List.toList_toArray, List.getElem?_cons_zero, List.getElem?_cons_succ] <;> rfl) : p := h
theorem sd6 {p : Prop} (h : p := by simp only [put_mk, put_none, Nat.reduceLT, ↓reduceIte, if_true, if_false] <;> rfl) : p := h
theorem sd7 {p : Prop} (h : p := by exact Nat.le_of_ble_eq_true rfl) : p := h
theorem sd8 {p : Prop} (h : p := by first | with_reducible assumption | (simp only [Tget_set, T.get_n, T.get_e, Nat.reduceEqDiff, Nat.reduceDiv, Nat.reduceMod, Nat.reduceSub, ↓reduceIte, if_true, if_false] <;> first | with_reducible assumption | rfl) | rfl) : p := h
theorem sd9 {p : Prop} (h : p := by first | with_reducible assumption | (simp only [Tget_set, T.get_n, T.get_e, Nat.reduceEqDiff, Nat.reduceDiv, Nat.reduceMod, Nat.reduceSub, ↓reduceIte, if_true, if_false] <;> first | with_reducible assumption | rfl)) : p := h
/-- one step of a walk that asks for no facts of its own -/
theorem st {p q : Prop} (hq : q) (h : q → p := by
    first
      | with_reducible refine r_seq
      | with_reducible refine r_next
      | with_reducible refine r_block
      | with_reducible refine r_seq_exit
      | with_reducible refine r_seq_ret
      | with_reducible refine r_blk_n
      | with_reducible refine r_blk_ret
      | with_reducible refine r_blk_hit
      | with_reducible refine r_blk_miss rfl
      | with_reducible refine r_skip
      | with_reducible refine r_exit
      | with_reducible refine r_ret
      | with_reducible refine r_rq_exit
      | with_reducible refine r_rq_ret
      | ((with_reducible apply r_regA); (focus (exact sd2)); (focus (exact sd1)))
      | ((with_reducible refine r_reg (List.toList_toArray) ?_); focus (exact sd1))
      | ((with_reducible apply r_end); focus (exact sd4))
      | ((with_reducible (first | apply r_move | apply r_assign)); (focus (exact sd9)); (focus (exact sd7)))
      | ((with_reducible apply r_condT); (focus (exact sd9)))
      | ((with_reducible apply r_gT); (focus (exact sd5)); (focus rfl); (focus (exact sd9)))
      | (intro hq; with_reducible rw [ifQ_t]; exact hq)
      | (intro hq; with_reducible rw [ifQ_f]; exact hq)) : p := h hq
end Go.Ai

namespace Go.Proofs.YtmnhaoadhkdinaaGreatDoor
open Go Go.Ai
set_option maxRecDepth 100000

noncomputable def xIdx : List AV → Option AV
  | [.str s, .int .u8 (.ofNat c)] => match Nat.blt c 256 with
    | true => some (.int .i64 (idxB c s 0))
    | false => none
  | _ => none
noncomputable def xCmp : List AV → Option AV
  | [.str s, .str t] => some (.int .i64 (cmpB s t))
  | _ => none
noncomputable def x0f : FuncId → List AV → Option AV := fun f args => match Nat.beq f 174 with
  | true => xIdx args
  | false => match Nat.beq f 186 with
  | true => xCmp args
  | false => none
noncomputable def X0 : Ext := ⟨x0f, fun f => false⟩
noncomputable def selA (f : Nat) : Bool := [151].any (Nat.beq f)
noncomputable def selB (f : Nat) : Bool := [151, 129, 106, 148, 146, 120, 147, 109, 116, 67, 89, 77, 74, 95, 75, 162, 84, 145, 142, 118, 119, 149].any (Nat.beq f)
noncomputable def X1 : Ext := memoX Tryz.prog [] X0 2000 60 selA
noncomputable def X2 : Ext := memoX Tryz.prog [] X1 2000 60 selB

theorem x0_ok : XOK Tryz.prog [] X0 := by
  intro f args v h ρ base w vs rv _ _
  replace h : x0f f args = some v := h
  unfold x0f at h
  split at h
  · rename_i hf
    have hf := Nat.eq_of_beq_eq_true hf
    subst hf
    unfold xIdx at h
    split at h
    · rename_i s c
      split at h
      · rename_i hc
        cases h
        obtain ⟨u1, us, r1, ⟨u2, us2, r2, r3, e2⟩, e1⟩ := rv
        simp only [RV] at r1 r2
        simp only [RVs] at r3
        subst r1 r2 r3 e2 e1
        have := idx_ok (P := Tryz.prog) (f := 174) (fn := Tryz.f174) Tryz.func174 (by kernel_rfl) (by kernel_rfl) (by kernel_rfl) (by kernel_rfl) (l := s) (c := c) (by simpa using hc) w
        show Meets _ ((callFunc 174 #[.string ⟨s.toArray⟩, .int .u8 (c : Int)]).run Tryz.prog w) _
        rw [this]
        exact ⟨_, rfl, rfl, Keeps.refl _ _⟩
      · cases h
    · cases h
  · split at h
    · rename_i hf
      have hf := Nat.eq_of_beq_eq_true hf
      subst hf
      unfold xCmp at h
      split at h
      · rename_i s t
        cases h
        obtain ⟨u1, us, r1, ⟨u2, us2, r2, r3, e2⟩, e1⟩ := rv
        simp only [RV] at r1 r2
        simp only [RVs] at r3
        subst r1 r2 r3 e2 e1
        have := cmp_ok (P := Tryz.prog) (f := 186) (fn := Tryz.f186) Tryz.func186 (by kernel_rfl) (by kernel_rfl) (by kernel_rfl) (by kernel_rfl) (x := s) (y := t) w
        show Meets _ ((callFunc 186 #[.string ⟨s.toArray⟩, .string ⟨t.toArray⟩]).run Tryz.prog w) _
        rw [this]
        exact ⟨_, rfl, rfl, Keeps.refl _ _⟩
      · cases h
    · cases h
theorem mixed : Tryz.prog.follows .mixedOrders = true := by kernel_rfl
def noNumB (P : Program) : Bool := P.funcs.toList.all fun fn => fn.body.isNone || !(fn.name == "runtime.NumGoroutine")
theorem noNum_of {P : Program} (h : noNumB P = true) : NoNum P := by
  intro f fn hf hb
  have := List.all_eq_true.1 h fn (List.mem_of_getElem? (by simpa using hf))
  cases hq : fn.name == "runtime.NumGoroutine" with
  | false => rfl
  | true =>
    rw [hq] at this
    cases hbb : fn.body with
    | none => rw [hbb] at hb; cases hb
    | some c => rw [hbb] at this; simp at this
theorem noNum : NoNum Tryz.prog := noNum_of (by kernel_rfl)
theorem x1_ok : XOK Tryz.prog [] X1 := memo_ok x0_ok mixed noNum 2000 60 selA
theorem x2_ok : XOK Tryz.prog [] X2 := memo_ok x1_ok mixed noNum 2000 60 selB
end Go.Proofs.YtmnhaoadhkdinaaGreatDoor

namespace Go.Proofs.YtmnhaoadhkdinaaGreatDoor
open Go Go.Ai
set_option maxRecDepth 100000
theorem sz2 : sizeT Tryz.prog 2 = some 1 := by kernel_rfl
theorem ag2 : isAggT Tryz.prog 2 = some false := by kernel_rfl
theorem tg2 : tagS Tryz.prog 2 = 0 := by kernel_rfl
theorem zr2 : zeroT Tryz.prog 2 = some (.int .i64 0) := by kernel_rfl
theorem sz3 : sizeT Tryz.prog 3 = some 1 := by kernel_rfl
theorem ag3 : isAggT Tryz.prog 3 = some false := by kernel_rfl
theorem tg3 : tagS Tryz.prog 3 = 0 := by kernel_rfl
theorem zr3 : zeroT Tryz.prog 3 = some (.int .i64 0) := by kernel_rfl
theorem sz4 : sizeT Tryz.prog 4 = some 1 := by kernel_rfl
theorem ag4 : isAggT Tryz.prog 4 = some false := by kernel_rfl
theorem tg4 : tagS Tryz.prog 4 = 0 := by kernel_rfl
theorem zr4 : zeroT Tryz.prog 4 = some (.bool false) := by kernel_rfl
theorem sz9 : sizeT Tryz.prog 9 = some 1 := by kernel_rfl
theorem ag9 : isAggT Tryz.prog 9 = some false := by kernel_rfl
theorem tg9 : tagS Tryz.prog 9 = 0 := by kernel_rfl
theorem zr9 : zeroT Tryz.prog 9 = some (.str []) := by kernel_rfl
theorem sz22 : sizeT Tryz.prog 22 = some 1 := by kernel_rfl
theorem ag22 : isAggT Tryz.prog 22 = some false := by kernel_rfl
theorem tg22 : tagS Tryz.prog 22 = 0 := by kernel_rfl
theorem zr22 : zeroT Tryz.prog 22 = some (.nils) := by kernel_rfl
theorem sz23 : sizeT Tryz.prog 23 = some 1 := by kernel_rfl
theorem ag23 : isAggT Tryz.prog 23 = some false := by kernel_rfl
theorem tg23 : tagS Tryz.prog 23 = 0 := by kernel_rfl
theorem zr23 : zeroT Tryz.prog 23 = some (.int .u64 0) := by kernel_rfl
theorem sz24 : sizeT Tryz.prog 24 = some 1 := by kernel_rfl
theorem ag24 : isAggT Tryz.prog 24 = some false := by kernel_rfl
theorem tg24 : tagS Tryz.prog 24 = 0 := by kernel_rfl
theorem zr24 : zeroT Tryz.prog 24 = some (.nils) := by kernel_rfl
theorem sz26 : sizeT Tryz.prog 26 = some 4 := by kernel_rfl
theorem ag26 : isAggT Tryz.prog 26 = some true := by kernel_rfl
theorem tg26 : tagS Tryz.prog 26 = 0 := by kernel_rfl
theorem zr26 : zeroT Tryz.prog 26 = some (.agg [.int .i64 0, .int .u64 0, .str [], .nils]) := by kernel_rfl
theorem sz27 : sizeT Tryz.prog 27 = some 1 := by kernel_rfl
theorem ag27 : isAggT Tryz.prog 27 = some false := by kernel_rfl
theorem tg27 : tagS Tryz.prog 27 = 0 := by kernel_rfl
theorem zr27 : zeroT Tryz.prog 27 = some (.nils) := by kernel_rfl
theorem sz29 : sizeT Tryz.prog 29 = some 2 := by kernel_rfl
theorem ag29 : isAggT Tryz.prog 29 = some true := by kernel_rfl
theorem tg29 : tagS Tryz.prog 29 = 0 := by kernel_rfl
theorem zr29 : zeroT Tryz.prog 29 = some (.agg [.nils, .nils]) := by kernel_rfl
theorem sz31 : sizeT Tryz.prog 31 = some 7 := by kernel_rfl
theorem ag31 : isAggT Tryz.prog 31 = some true := by kernel_rfl
theorem tg31 : tagS Tryz.prog 31 = 0 := by kernel_rfl
theorem zr31 : zeroT Tryz.prog 31 = some (.agg [.int .i64 0, .int .u64 0, .str [], .nils, .int .i64 0, .nils, .nils]) := by kernel_rfl
theorem sz32 : sizeT Tryz.prog 32 = some 1 := by kernel_rfl
theorem ag32 : isAggT Tryz.prog 32 = some false := by kernel_rfl
theorem tg32 : tagS Tryz.prog 32 = 0 := by kernel_rfl
theorem zr32 : zeroT Tryz.prog 32 = some (.nils) := by kernel_rfl
theorem sz34 : sizeT Tryz.prog 34 = some 8 := by kernel_rfl
theorem ag34 : isAggT Tryz.prog 34 = some true := by kernel_rfl
theorem tg34 : tagS Tryz.prog 34 = 0 := by kernel_rfl
theorem zr34 : zeroT Tryz.prog 34 = some (.agg [.int .i64 0, .int .u64 0, .str [], .nils, .int .i64 0, .nils, .nils, .nils]) := by kernel_rfl
theorem sz35 : sizeT Tryz.prog 35 = some 1 := by kernel_rfl
theorem ag35 : isAggT Tryz.prog 35 = some false := by kernel_rfl
theorem tg35 : tagS Tryz.prog 35 = 0 := by kernel_rfl
theorem zr35 : zeroT Tryz.prog 35 = some (.nils) := by kernel_rfl
theorem sz37 : sizeT Tryz.prog 37 = some 14 := by kernel_rfl
theorem ag37 : isAggT Tryz.prog 37 = some true := by kernel_rfl
theorem tg37 : tagS Tryz.prog 37 = 0 := by kernel_rfl
theorem zr37 : zeroT Tryz.prog 37 = some (.agg [.int .i64 0, .int .i64 0, .int .u64 0, .str [], .nils, .int .i64 0, .nils, .nils, .nils, .int .i64 0, .int .u64 0, .str [], .nils, .nils]) := by kernel_rfl
theorem sz39 : sizeT Tryz.prog 39 = some 1 := by kernel_rfl
theorem ag39 : isAggT Tryz.prog 39 = some false := by kernel_rfl
theorem tg39 : tagS Tryz.prog 39 = 0 := by kernel_rfl
theorem zr39 : zeroT Tryz.prog 39 = some (.nilp) := by kernel_rfl
theorem sz40 : sizeT Tryz.prog 40 = some 1 := by kernel_rfl
theorem ag40 : isAggT Tryz.prog 40 = some false := by kernel_rfl
theorem tg40 : tagS Tryz.prog 40 = 0 := by kernel_rfl
theorem zr40 : zeroT Tryz.prog 40 = some (.int .i64 0) := by kernel_rfl
theorem sz43 : sizeT Tryz.prog 43 = some 1 := by kernel_rfl
theorem ag43 : isAggT Tryz.prog 43 = some false := by kernel_rfl
theorem tg43 : tagS Tryz.prog 43 = 0 := by kernel_rfl
theorem zr43 : zeroT Tryz.prog 43 = some (.nilp) := by kernel_rfl
theorem sz58 : sizeT Tryz.prog 58 = some 1 := by kernel_rfl
theorem ag58 : isAggT Tryz.prog 58 = some false := by kernel_rfl
theorem tg58 : tagS Tryz.prog 58 = 0 := by kernel_rfl
theorem zr58 : zeroT Tryz.prog 58 = some (.nils) := by kernel_rfl
theorem sz60 : sizeT Tryz.prog 60 = some 4 := by kernel_rfl
theorem ag60 : isAggT Tryz.prog 60 = some true := by kernel_rfl
theorem tg60 : tagS Tryz.prog 60 = 0 := by kernel_rfl
theorem zr60 : zeroT Tryz.prog 60 = some (.agg [.int .i64 0, .nils, .int .i64 0, .int .i64 0]) := by kernel_rfl
theorem sz64 : sizeT Tryz.prog 64 = some 3 := by kernel_rfl
theorem ag64 : isAggT Tryz.prog 64 = some true := by kernel_rfl
theorem tg64 : tagS Tryz.prog 64 = 0 := by kernel_rfl
theorem zr64 : zeroT Tryz.prog 64 = some (.agg [.int .i64 0, .int .i64 0, .str []]) := by kernel_rfl
theorem sz66 : sizeT Tryz.prog 66 = some 4 := by kernel_rfl
theorem ag66 : isAggT Tryz.prog 66 = some true := by kernel_rfl
theorem tg66 : tagS Tryz.prog 66 = 0 := by kernel_rfl
theorem zr66 : zeroT Tryz.prog 66 = some (.agg [.str [], .int .i64 0, .int .i64 0, .str []]) := by kernel_rfl
theorem sz68 : sizeT Tryz.prog 68 = some 5 := by kernel_rfl
theorem ag68 : isAggT Tryz.prog 68 = some true := by kernel_rfl
theorem tg68 : tagS Tryz.prog 68 = 0 := by kernel_rfl
theorem zr68 : zeroT Tryz.prog 68 = some (.agg [.str [], .bool false, .int .i64 0, .int .i64 0, .str []]) := by kernel_rfl
theorem sz89 : sizeT Tryz.prog 89 = some 4 := by kernel_rfl
theorem ag89 : isAggT Tryz.prog 89 = some true := by kernel_rfl
theorem tg89 : tagS Tryz.prog 89 = 0 := by kernel_rfl
theorem zr89 : zeroT Tryz.prog 89 = some (.agg [.int .i64 0, .nils, .int .i64 0, .int .i64 0]) := by kernel_rfl
end Go.Proofs.YtmnhaoadhkdinaaGreatDoor

/-! One table for a whole claim: pure calls by what they answer (kc_hit: the contract is proof enough), others by what is said of them. -/
namespace Go.Ai
open Go
variable {P : Program} {G : Glob} {K : CallF} {m : Nat} {Q : Ex → Fr → St → Prop} {sp : FuncId → List AV → St → Option AV} {S : FuncId → List AV → St → Out → Prop}
noncomputable def KCf (P : Program) (G : Glob) (sp : FuncId → List AV → St → Option AV) (S : FuncId → List AV → St → Out → Prop) : FuncId → List AV → St → Outs := fun f args s =>
  match sp f args s with
  | some v => open Classical in if Snd P G f args s [.val v s] then some [.val v s] else none
  | none => KUf P G S f args s
noncomputable def KC (P : Program) (G : Glob) (sp : FuncId → List AV → St → Option AV) (S : FuncId → List AV → St → Out → Prop) : CallF := ⟨KCf P G sp S, fun _ _ _ => none⟩
theorem kc_fn (f : FuncId) (args : List AV) (s : St) : CallF.fn (KC P G sp S) f args s = KCf P G sp S f args s := rfl
theorem kc_ok : KOK P G (KC P G sp S) := KOK.table fun f args s outs h => by
  unfold KCf at h
  split at h
  · split at h
    · rename_i hs; cases h; exact hs
    · cases h
  · exact ku_ok.fn _ _ _ _ h
theorem kc_hit {f : FuncId} {args : List AV} {s : St} {v : AV} (hs : sp f args s = some v) (h : Snd P G f args s [.val v s]) : CallF.fn (KC P G sp S) f args s = some [.val v s] := by
  rw [kc_fn]; unfold KCf; rw [hs]; exact if_pos h
theorem kc_miss {f : FuncId} {args : List AV} {s : St} (hs : sp f args s = none) : CallF.fn (KC P G sp S) f args s = KUf P G S f args s := by
  rw [kc_fn]; unfold KCf; rw [hs]
section
variable {l : List Oper} {ops : Array Oper} {i : Nat} {fr fr' : Fr} {s s' : St} {o : Oper} {rest : List Oper} {j : Nat} {js : List Nat} {f : FuncId} {args : List AV} {R : Out → Prop}
/-- a call of which something is said, whatever the table -/
theorem r_callC (hw : wantedA fr ops o = true) (hc : callOuts P K fr i s o.op = KUf P G S f args s) (hs : SndQ P G f args s (S f args s))
    (hk : ∀ x, S f args s x → backQ fr o.dst (fun fr' s' => WR (textOps P G K ops rest (i + 1) fr' s') Q) x) : WR (textOps P G K ops (o :: rest) i fr s) Q := by
  obtain ⟨outs, e, hq⟩ := ku_hit hs
  rw [e] at hc
  have : WR (oneOp P G K o.dst o.op i fr s (textOps P G K ops rest (i + 1))) Q := by
    rw [callOuts_one hc]
    refine wr_outs (dst := o.dst) (k := fun fr' s' => WR (textOps P G K ops rest (i + 1) fr' s') Q) ?_ fun x hx => hk x (hq x hx)
    intro v s fr' hp hk
    rw [hp]; exact hk
  obtain ⟨dst, op, ty, pos, after, g⟩ := o
  rw [textOps, hw]
  exact this
end
theorem ic_b (b : Bool) : isCell (.bool b) = true := rfl
theorem ic_i (k : IntKind) (n : Int) : isCell (.int k n) = true := rfl
theorem ic_s (l : List UInt8) : isCell (.str l) = true := rfl
theorem ic_np : isCell .nilp = true := rfl
theorem ic_p (i o : Nat) : isCell (.ptr i o) = true := rfl
theorem ic_g (i o : Nat) : isCell (.gptr i o) = true := rfl
theorem ic_ns : isCell .nils = true := rfl
theorem ic_h : isCell .hole = true := rfl
theorem ic_sl (b o e n : Nat) (c : Option Nat) : isCell (.slice b o e n c) = true := rfl
theorem ic_nm : isCell .nilm = true := rfl
theorem ic_m (i : Nat) : isCell (.map i) = true := rfl
theorem ic_nf : isCell .nilf = true := rfl
theorem ic_f (f : Fn) (a c : List AV) : isCell (.fn f a c) = true := rfl
theorem ic_ni : isCell .nili = true := rfl
theorem ic_if (t : TypeId) (v : AV) : isCell (.iface t v) = true := rfl
end Go.Ai

/-! Maps with texts as keys, whose entries are not known; ranges over them. -/
namespace Go.Ai
open Go
variable {P : Program} {G : Glob} {t : TypeId}
abbrev SM := List (List UInt8 × AV)
/-- the first place of a key, and what stands there -/
def fdM (x : List UInt8) : SM → Option (Nat × AV)
  | [] => none
  | (k, v) :: M => if x == k then some (0, v) else (fdM x M).map fun p => (p.1 + 1, p.2)
def lkM (x : List UInt8) (M : SM) : Option AV := (fdM x M).map (·.2)
def setM (x : List UInt8) (v : AV) : SM → SM
  | [] => [(x, v)]
  | (k, w) :: M => if x == k then (k, v) :: M else (k, w) :: setM x v M
section
variable {h : Heap} {id : Nat} {et : TypeId} {M : SM} {x : List UInt8} {z v : AV} {ok : Bool}
end
/-! ### ranges -/
section
variable {K : CallF} {Q : Ex → Fr → St → Prop} {ops : Array Oper} {rest : List Oper} {i F lc n d it id m : Nat} {tt : T AV} {df : List (AV × List AV)} {rc : Rc} {s : St} {ty : TypeId} {pos : String} {after : Array Edge} {M : SM} {seen : List Nat}
end
end Go.Ai

/-! What a range over a map has not seen yet. -/
namespace Go.Ai
open Go
end Go.Ai

/-! What a footprint's map holds: of each text whether it is read, written. -/
namespace Go.Ai
open Go
abbrev Tx := List UInt8
/-- a byte of two bits, joined -/
def orI (x b : Int) : Int := if b = 1 then (if x = 0 then 1 else if x = 2 then 3 else x) else (if x = 0 then 2 else if x = 1 then 3 else x)
def getI (k : Tx) (M : SM) : Int := match lkM k M with
  | some (.int _ n) => n
  | _ => 0
def up (b : Int) (M : SM) (k : Tx) : SM := setM k (.int .u8 (orI (getI k M) b)) M
open Classical in
theorem isCell_L {h : Heap} {ks : List CK} {a : AV} {L : List (List AV)} (hl : LstP h ks a L) : isCell a = true := by
  rcases hl.2.2 with ⟨rfl | rfl, _⟩ | ⟨b, o, eo, cap, rfl, _⟩ <;> rfl
end Go.Ai

/-! A cache of passes: what is kept under every list of acts; plain law (ReconCaches). -/
namespace Go.Ai
open Go
/-- a pass, as values: client, token, name, arguments, how, what it reads and writes, what was read -/
structure PV where
  cl : Int
  tok : Int
  nm : List UInt8
  args : List (List AV)
  how : Int
  rd : List (List UInt8)
  wr : List (List UInt8)
  it : List (List AV)
def keyI : List AV → List UInt8
  | .str k :: _ => k
  | _ => []
def sameK (nm : List UInt8) (args : List (List AV)) (p : PV) : Prop := p.nm = nm ∧ p.args = args
/-- where the pass of a request's kind stands -/
noncomputable def fndP (nm : List UInt8) (args : List (List AV)) : List PV → Option Nat
  | [] => none
  | p :: L => open Classical in if sameK nm args p then some 0 else (fndP nm args L).map (· + 1)
theorem fnd_some {nm : List UInt8} {args : List (List AV)} : ∀ {L : List PV} {i : Nat} {p : PV}, L[i]? = some p → sameK nm args p → (∀ (j : Nat) (q : PV), j < i → L[j]? = some q → ¬ sameK nm args q) → fndP nm args L = some i
  | [], i, p, h, _, _ => by simp at h
  | q :: L, 0, p, h, hs, _ => by
    have : q = p := by simpa using h
    subst this
    rw [fndP, if_pos hs]
  | q :: L, i + 1, p, h, hs, hn => by
    rw [fndP, if_neg (hn 0 q (by omega) rfl), fnd_some (L := L) (i := i) (by simpa using h) hs fun j r hj hr => hn (j + 1) r (by omega) (by simpa using hr)]
    rfl
theorem fnd_none {nm : List UInt8} {args : List (List AV)} : ∀ {L : List PV}, (∀ (j : Nat) (q : PV), L[j]? = some q → ¬ sameK nm args q) → fndP nm args L = none
  | [], _ => rfl
  | q :: L, hn => by
    rw [fndP, if_neg (hn 0 q rfl), fnd_none (L := L) fun j r hr => hn (j + 1) r (by simpa using hr)]
    rfl
theorem fnd_lt {nm : List UInt8} {args : List (List AV)} : ∀ {L : List PV} {i : Nat}, fndP nm args L = some i → i < L.length
  | [], i, h => by cases h
  | q :: L, i, h => by
    rw [fndP] at h
    split at h
    · cases h; simp
    · cases hf : fndP nm args L with
      | none => rw [hf] at h; cases h
      | some k =>
        rw [hf] at h
        cases h
        have := fnd_lt hf
        simp only [List.length_cons]; omega
/-- its number; none: -1 -/
def idxP : Option Nat → Int
  | some i => (i : Int)
  | none => -1
def dropP (L : List PV) : Option Nat → List PV
  | some i => L.eraseIdx i
  | none => L
noncomputable def putP (most : Nat) (L : List PV) (p : PV) : List PV :=
  let L2 := dropP L (fndP p.nm p.args L) ++ [p]
  L2.drop (L2.length - most)
theorem putP_len {most : Nat} {L : List PV} {p : PV} : (putP most L p).length ≤ most := by
  unfold putP
  simp only [List.length_drop]
  omega
/-! ### touched -/
def tch (ks : List (List UInt8)) (p : PV) : Prop := ∃ c ∈ p.it, keyI c ∈ ks
noncomputable def keepB (ks : List (List UInt8)) (p : PV) : Bool := open Classical in if tch ks p then false else true
noncomputable def tchL (ks : List (List UInt8)) (L : List PV) : List PV := L.filter (keepB ks)
theorem keep_t {ks : List (List UInt8)} {p : PV} (h : tch ks p) : keepB ks p = false := by unfold keepB; rw [if_pos h]
theorem keep_f {ks : List (List UInt8)} {p : PV} (h : ¬ tch ks p) : keepB ks p = true := by unfold keepB; rw [if_neg h]
theorem touch_len (ks : List (List UInt8)) (L : List PV) : (tchL ks L).length ≤ L.length := List.length_filter_le _ _
/-- a deletion in place: the kept ones of the first j stand at the front, from j on nothing is changed -/
structure DelP {α : Type} (K : List α) (L X : List α) (j : Nat) : Prop where
  len : X.length = L.length
  fr : X.take K.length = K
  bk : X.drop j = L.drop j
  le : K.length ≤ j
theorem DelP.skip {α : Type} {K L X : List α} {j : Nat} (d : DelP K L X j) : DelP K L X (j + 1) where
  len := d.len
  fr := d.fr
  bk := by rw [show j + 1 = j + 1 from rfl, ← List.drop_drop, d.bk, List.drop_drop]
  le := Nat.le_succ_of_le d.le
theorem DelP.keep {α : Type} {K L X : List α} {j : Nat} {x : α} (d : DelP K L X j) (hj : L[j]? = some x) : DelP (K ++ [x]) L (X.set K.length x) (j + 1) := by
  have hl := (List.getElem?_eq_some_iff.1 hj).1
  have hk : K.length < X.length := by have := d.le; have := d.len; omega
  refine ⟨by rw [List.length_set]; exact d.len, ?_, ?_, ?_⟩
  · rw [List.length_append, List.length_singleton, List.take_add_one, List.getElem?_set_self hk, List.take_set_of_le (Nat.le_refl _), d.fr]; rfl
  · rw [List.drop_set_of_lt (by have := d.le; omega), ← List.drop_drop, d.bk, List.drop_drop]
  · rw [List.length_append, List.length_singleton]; have := d.le; omega
end Go.Ai

/-! A call of the shelf whose end is: new memory at the end, draws; and what it answers is no place. A table that a world holds. -/
namespace Go.Ai
open Go
variable {P : Program} {G : Glob}
end Go.Ai

/-! A law in the memory that it finds, with package-level variables. Contracts without them serve with them. -/
namespace Go.Ai
open Go Go.RowKit
variable {P : Program} {G : Glob}
end Go.Ai

/-! strings.Join of a slice of texts. -/
namespace Go.Ai
open Go Go.RowKit
variable {P : Program} {G : Glob}
def tL (ss : List (List UInt8)) : List (List AV) := ss.map fun s => [AV.str s]
theorem tL_len (ss : List (List UInt8)) : (tL ss).length = ss.length := by simp [tL]
end Go.Ai

/-! Passes in memory: each kept pass has lists of its own in known frames (ReconCaches). -/
namespace Go.Ai
open Go
abbrev ksIt : List CK := [.s, .i .i64, .i .i64, .s]
abbrev ksP : List CK := [.i .i64, .i .u64, .s, .l, .i .i64, .l, .l, .l]
/-- a pass that lies in the frames between A and B -/
def PasI (A B : Nat) (h : Heap) (x : List AV) (p : PV) : Prop := cksOk ksP x ∧ ∃ a r w i, x = [.int .i64 p.cl, .int .u64 p.tok, .str p.nm, a, .int .i64 p.how, r, w, i] ∧ LstI A B h ksV a p.args ∧ LstI A B h ksT r (tL p.rd) ∧ LstI A B h ksT w (tL p.wr) ∧ LstI A B h ksIt i p.it
section
variable {A B : Nat} {h h' : Heap} {x : List AV} {p : PV}
theorem PasI.move (e : PasI A B h x p) (he : EqI A B h h') : PasI A B h' x p := by
  obtain ⟨ok, a, r, w, i, h1, h2, h3, h4, h5⟩ := e
  exact ⟨ok, a, r, w, i, h1, h2.move he, h3.move he, h4.move he, h5.move he⟩
theorem PasI.low {F : Nat} (e : PasI A B h x p) (hl : Low F h h') (hB : B ≤ F) : PasI A B h' x p := e.move ((EqI.refl A B h).call hl hB)
end
/-- passes that are kept: each in frames of which Q is said, below the frame F -/
def Kept (Q : Nat → Nat → Prop) (F : Nat) (h : Heap) (X : List (List AV)) (L : List PV) : Prop := X.length = L.length ∧ ∀ (j : Nat) (x : List AV) (p : PV), X[j]? = some x → L[j]? = some p → ∃ A B, Q A B ∧ B ≤ F ∧ PasI A B h x p
section
variable {Q : Nat → Nat → Prop} {F : Nat} {h h' : Heap} {X : List (List AV)} {L : List PV}
theorem Kept.nil : Kept Q F h [] [] := ⟨rfl, fun j x p hx => by simp at hx⟩
theorem Kept.mono {Q' : Nat → Nat → Prop} {F' : Nat} (k : Kept Q F h X L) (hQ : ∀ A B, Q A B → Q' A B) (hF : F ≤ F') : Kept Q' F' h X L :=
  ⟨k.1, fun j x p hx hp => let ⟨A, B, h1, h2, h3⟩ := k.2 j x p hx hp; ⟨A, B, hQ A B h1, Nat.le_trans h2 hF, h3⟩⟩
/-- what changes in other frames alone -/
theorem Kept.eqs (k : Kept Q F h X L) (he : ∀ A B, Q A B → B ≤ F → EqI A B h h') : Kept Q F h' X L :=
  ⟨k.1, fun j x p hx hp => let ⟨A, B, h1, h2, h3⟩ := k.2 j x p hx hp; ⟨A, B, h1, h2, h3.move (he A B h1 h2)⟩⟩
theorem Kept.low (k : Kept Q F h X L) (hl : Low F h h') : Kept Q F h' X L := k.eqs fun A B _ hB => (EqI.refl A B h).call hl hB
theorem Kept.app (k : Kept Q F h X L) {x : List AV} {p : PV} {A B : Nat} (hQ : Q A B) (hB : B ≤ F) (hp : PasI A B h x p) : Kept Q F h (X ++ [x]) (L ++ [p]) := by
  refine ⟨by simp [k.1], fun j y q hy hq => ?_⟩
  by_cases hj : j < X.length
  · rw [List.getElem?_append_left hj] at hy
    rw [List.getElem?_append_left (by rw [← k.1]; exact hj)] at hq
    exact k.2 j y q hy hq
  · rw [List.getElem?_append_right (by omega)] at hy
    rw [List.getElem?_append_right (by rw [← k.1]; omega), ← k.1] at hq
    have := (List.getElem?_eq_some_iff.1 hy).1
    simp only [List.length_cons, List.length_nil] at this
    rw [show j - X.length = 0 by omega] at hy hq
    cases hy
    cases hq
    exact ⟨A, B, hQ, hB, hp⟩
theorem Kept.erase (k : Kept Q F h X L) (i : Nat) : Kept Q F h (X.eraseIdx i) (L.eraseIdx i) := by
  refine ⟨by rw [List.length_eraseIdx, List.length_eraseIdx, k.1], fun j x p hx hp => ?_⟩
  rw [List.getElem?_eraseIdx] at hx hp
  by_cases hj : j < i
  · rw [if_pos hj] at hx hp; exact k.2 j x p hx hp
  · rw [if_neg hj] at hx hp; exact k.2 (j + 1) x p hx hp
theorem Kept.drop (k : Kept Q F h X L) (n : Nat) : Kept Q F h (X.drop n) (L.drop n) := by
  refine ⟨by rw [List.length_drop, List.length_drop, k.1], fun j x p hx hp => ?_⟩
  rw [List.getElem?_drop] at hx hp
  exact k.2 (n + j) x p hx hp
theorem Kept.ok (k : Kept Q F h X L) : ∀ x ∈ X, cksOk ksP x := fun x hx => by
  obtain ⟨j, hj⟩ := List.getElem?_of_mem hx
  have hjl := (List.getElem?_eq_some_iff.1 hj).1
  have hll : j < L.length := by rw [← k.1]; exact hjl
  obtain ⟨_, _, _, _, h3⟩ := k.2 j x L[j] hj (List.getElem?_eq_getElem hll)
  exact h3.1
end
/-! ### passes out of memory -/
noncomputable def txtO (h : Heap) (a : AV) : Option (List (List UInt8)) := match lstOf h ksT a with
  | some L => some (L.map fun l => match l with
    | [.str s] => s
    | _ => [])
  | none => none
theorem txtO_eq {h : Heap} {a : AV} {ss : List (List UInt8)} (hl : LstP h ksT a (tL ss)) : txtO h a = some ss := by
  unfold txtO
  rw [lstOf_eq hl]
  simp only [tL, List.map_map, Option.some.injEq]
  exact List.map_id' _
noncomputable def pas1 (h : Heap) : List AV → Option PV
  | [.int _ c, .int _ t, .str n, a, .int _ how, r, w, i] => match lstOf h ksV a, txtO h r, txtO h w, lstOf h ksIt i with
    | some V, some R, some W, some I => some ⟨c, t, n, V, how, R, W, I⟩
    | _, _, _, _ => none
  | _ => none
theorem pas1_eq {h : Heap} {A B : Nat} {x : List AV} {p : PV} (e : PasI A B h x p) : pas1 h x = some p := by
  obtain ⟨_, a, r, w, i, rfl, h2, h3, h4, h5⟩ := e
  simp only [pas1, lstOf_eq h2.p, txtO_eq h3.p, txtO_eq h4.p, lstOf_eq h5.p]
noncomputable def pasL (h : Heap) : List (List AV) → Option (List PV)
  | [] => some []
  | x :: X => match pas1 h x, pasL h X with
    | some p, some L => some (p :: L)
    | _, _ => none
theorem pasL_eq {h : Heap} : ∀ {X : List (List AV)} {L : List PV}, X.length = L.length → (∀ (j : Nat) (x : List AV) (p : PV), X[j]? = some x → L[j]? = some p → ∃ A B, PasI A B h x p) → pasL h X = some L
  | [], [], _, _ => rfl
  | x :: X, p :: L, hl, he => by
    obtain ⟨A, B, e⟩ := he 0 x p rfl rfl
    have ih := pasL_eq (X := X) (L := L) (by simpa using hl) fun j y q hy hq => he (j + 1) y q (by simpa using hy) (by simpa using hq)
    simp only [pasL, pas1_eq e, ih]
  | [], _ :: _, h, _ => by simp at h
  | _ :: _, [], h, _ => by simp at h
/-- the passes of a slice -/
noncomputable def pasO (h : Heap) (a : AV) : Option (List PV) := match lstOf h ksP a with
  | some X => pasL h X
  | none => none
theorem pasO_eq {h : Heap} {Q : Nat → Nat → Prop} {F : Nat} {a : AV} {X : List (List AV)} {L : List PV} (hl : LstP h ksP a X) (k : Kept Q F h X L) : pasO h a = some L := by
  unfold pasO
  rw [lstOf_eq hl]
  exact pasL_eq k.1 fun j x p hx hp => let ⟨A, B, _, _, e⟩ := k.2 j x p hx hp; ⟨A, B, e⟩
end Go.Ai

namespace Go.Proofs.YtmnhaoadhkdinaaGreatDoor
open Go Go.Ai
set_option maxRecDepth 100000
end Go.Proofs.YtmnhaoadhkdinaaGreatDoor

namespace Go.Proofs.YtmnhaoadhkdinaaGreatDoor
open Go Go.Ai
set_option maxRecDepth 100000
theorem eg64 : Tryz.prog.eqGuardType Tryz.prog.depth 64 = false := by kernel_rfl
theorem si64 : Tryz.prog.stoodInHeld 64 = false := by kernel_rfl
theorem eq_int {P : Program} {d t : Nat} {kk k : IntKind} {a b : Int} (hu : P.underlying t = some (.int kk)) : eqIn P (d + 1) t (.int k a) (.int k b) = some (a == b) := by
  unfold eqIn; simp [hu]
theorem eq_str {P : Program} {d t : Nat} {a b : List UInt8} (hu : P.underlying t = some .string) : eqIn P (d + 1) t (.str a) (.str b) = some (a == b) := by
  unfold eqIn; simp [hu]
theorem eq_struct {P : Program} {d t : Nat} {fs : Array Field} {xs ys : List AV} (hu : P.underlying t = some (.struct fs)) (hs : P.stoodInHeld t = false) : eqIn P (d + 1) t (.agg xs) (.agg ys) = eqFs P (eqIn P d) xs ys fs.toList := by
  unfold eqIn; simp [hu, hs]
theorem eqV (d : Nat) (k n k' n' : Int) (t t' : List UInt8) : eqIn Tryz.prog (d + 2) 64 (.agg [.int .i64 k, .int .i64 n, .str t]) (.agg [.int .i64 k', .int .i64 n', .str t']) = some (dec ([AV.int .i64 k, .int .i64 n, .str t] = [.int .i64 k', .int .i64 n', .str t'])) := by
  rw [eq_struct Tryz.underlying64 si64]
  simp only [eqFs, partA, ag3, ag2, ag9, List.getElem?_cons_zero, List.getElem?_cons_succ, eq_int Tryz.underlying3, eq_int Tryz.underlying2, eq_str Tryz.underlying9]
  simp only [String.reduceBEq]
  cases h1 : k == k' <;> cases h2 : n == n' <;> cases h3 : t == t' <;> simp_all [dec]
theorem eqV100 (k n k' n' : Int) (t t' : List UInt8) : eqIn Tryz.prog 100 64 (.agg [.int .i64 k, .int .i64 n, .str t]) (.agg [.int .i64 k', .int .i64 n', .str t']) = some (dec ([AV.int .i64 k, .int .i64 n, .str t] = [.int .i64 k', .int .i64 n', .str t'])) := eqV 98 _ _ _ _ _ _
end Go.Proofs.YtmnhaoadhkdinaaGreatDoor

namespace Go.Proofs.YtmnhaoadhkdinaaGreatDoor
open Go Go.Ai
set_option maxRecDepth 100000

abbrev ksW : List CK := [.s, .b, .i .i64, .i .i64, .s]
/-- the first write on a key; none: -1 -/
noncomputable def wIdx (m : Tx) (U : List (List AV)) : Int := open Classical in match U.findIdx? (fun c => decide (keyI c = m)) with
  | some i => (i : Int)
  | none => -1
/-- a request in a box -/
noncomputable def rqO (h : Heap) (k : Nat) : Option (Tx × List (List AV)) := match rdAB (hget h k) 0 4 with
  | some [_, _, .str m, b] => match lstOf h ksV b with
    | some U => some (m, U)
    | none => none
  | _ => none
/-- writes in a box -/
noncomputable def wrO (h : Heap) (b : Nat) : Option (List (List AV)) := match rdAB (hget h b) 0 1 with
  | some [w] => lstOf h ksW w
  | _ => none
/-- the first pass that is touched -/
noncomputable def fndT (ks : List Tx) (L : List PV) : Option Nat := open Classical in L.findIdx? (fun p => decide (tch ks p))
/-- the passes of a cache -/
noncomputable def caO (h : Heap) (k : Nat) : Option (List PV) := match rdAB (hget h k) 0 4 with
  | some [_, l, _, _] => pasO h l
  | _ => none
noncomputable def cEq : List AV → St → Option AV
  | [a, b], s => match lstOf s.h ksV a, lstOf s.h ksV b with
    | some V, some U => some (.bool (dec (V = U)))
    | _, _ => none
  | _, _ => none
noncomputable def cKind : List AV → St → Option AV
  | [.agg [_, _, .str n, a], .agg [_, _, .str m, b]], s => match lstOf s.h ksV a, lstOf s.h ksV b with
    | some V, some U => some (.bool (dec (n = m ∧ V = U)))
    | _, _ => none
  | _, _ => none
noncomputable def cFind1 : List AV → St → Option AV
  | [.agg [_, _, .str n, a, _, _, _, _], .ptr k 0], s => match rqO s.h k, lstOf s.h ksV a with
    | some (m, U), some V => some (.bool (dec (n = m ∧ V = U)))
    | _, _ => none
  | _, _ => none
noncomputable def cIdx : List AV → St → Option AV
  | [a, .fn (.func 52) [] [.ptr k 0]], s => match pasO s.h a, rqO s.h k with
    | some L, some (m, U) => some (.int .i64 (idxP (fndP m U L)))
    | _, _ => none
  | [a, .fn (.func 38) [] [.ptr b 0]], s => match pasO s.h a, wrO s.h b with
    | some L, some U => some (.int .i64 (idxP (fndT (U.map keyI) L)))
    | _, _ => none
  | _, _ => none
noncomputable def cTou1 : List AV → St → Option AV
  | [.agg [_, _, _, _, _, _, _, i], .ptr b 0], s => match lstOf s.h ksIt i, wrO s.h b with
    | some I, some U => some (.bool (dec (∃ c ∈ I, keyI c ∈ U.map keyI)))
    | _, _ => none
  | _, _ => none
noncomputable def cAt : List AV → St → Option AV
  | [.ptr k 0, .agg [_, _, .str n, a]], s => match caO s.h k, lstOf s.h ksV a with
    | some L, some V => some (.int .i64 (idxP (fndP n V L)))
    | _, _ => none
  | _, _ => none
noncomputable def cW1 : List AV → St → Option AV
  | [.agg [.str k, _, _, _, _], .ptr b 0], s => match rdAB (hget s.h b) 0 1 with
    | some [.str m] => some (.bool (dec (k = m)))
    | _ => none
  | _, _ => none
noncomputable def cWx : List AV → St → Option AV
  | [w, .fn (.func 50) [] [.ptr b 0]], s => match lstOf s.h ksW w, rdAB (hget s.h b) 0 1 with
    | some U, some [.str m] => some (.int .i64 (wIdx m U))
    | _, _ => none
  | _, _ => none
noncomputable def cWc : List AV → St → Option AV
  | [w, .fn (.func 50) [] [.ptr b 0]], s => match lstOf s.h ksW w, rdAB (hget s.h b) 0 1 with
    | some U, some [.str m] => some (.bool (dec (m ∈ U.map keyI)))
    | _, _ => none
  | _, _ => none
noncomputable def cTo : List AV → St → Option AV
  | [.agg [_, _, _, _, _, _, _, i], w], s => match lstOf s.h ksIt i, lstOf s.h ksW w with
    | some I, some U => some (.bool (dec (∃ c ∈ I, keyI c ∈ U.map keyI)))
    | _, _ => none
  | _, _ => none
noncomputable def cEqP : List AV → St → Option AV
  | [.agg x, .agg y], s => match pas1 s.h x, pas1 s.h y with
    | some p, some q => some (.bool (dec (p = q)))
    | _, _ => none
  | _, _ => none
noncomputable def cEq9 : List AV → St → Option AV
  | [.agg [c, t, n, a], .agg [d, u, m, b]], s => match lstOf s.h ksV a, lstOf s.h ksV b with
    | some V, some U => some (.bool (dec ([c, t, n] = [d, u, m] ∧ V = U)))
    | _, _ => none
  | _, _ => none
noncomputable def cSame : List AV → St → Option AV
  | [.agg [a, b], .agg [c, d]], s => match txtO s.h a, txtO s.h b, txtO s.h c, txtO s.h d with
    | some A, some B, some C, some D => some (.bool (dec (A = C ∧ B = D)))
    | _, _, _, _ => none
  | _, _ => none
noncomputable def cTexts : List AV → St → Option AV
  | [a, b], s => match txtO s.h a, txtO s.h b with
    | some A, some B => some (.bool (dec (A = B)))
    | _, _ => none
  | _, _ => none
noncomputable def cHits : List AV → St → Option AV
  | [.ptr k 0], s => match rdAB (hget s.h k) 0 4 with
    | some [_, _, y, n] => some (.tup [y, n])
    | _ => none
  | _, _ => none
noncomputable def cLen : List AV → St → Option AV
  | [.ptr k 0], s => match rdAB (hget s.h k) 0 4 with
    | some [_, l, _, _] => lenA Tryz.prog 58 l
    | _ => none
  | _, _ => none
noncomputable def cNum : List AV → St → Option AV
  | [.int .i64 e], _ => some (.int .i64 e)
  | _, _ => none
noncomputable def cLive : List AV → St → Option AV
  | [], _ => some (.bool true)
  | _, _ => none
noncomputable def spC : FuncId → List AV → St → Option AV := fun f args s => match Nat.beq f 53 with
  | true => cEq args s
  | false => match Nat.beq f 56 with
  | true => cKind args s
  | false => match Nat.beq f 52 with
  | true => cFind1 args s
  | false => match Nat.beq f 51 with
  | true => cIdx args s
  | false => match Nat.beq f 38 with
  | true => cTou1 args s
  | false => match Nat.beq f 32 with
  | true => cAt args s
  | false => match Nat.beq f 29 with
  | true => cAt args s
  | false => match Nat.beq f 50 with
  | true => cW1 args s
  | false => match Nat.beq f 72 with
  | true => cWx args s
  | false => match Nat.beq f 49 with
  | true => cWc args s
  | false => match Nat.beq f 27 with
  | true => cTo args s
  | false => match Nat.beq f 39 with
  | true => cTo args s
  | false => match Nat.beq f 12 with
  | true => cEqP args s
  | false => match Nat.beq f 34 with
  | true => cEq9 args s
  | false => match Nat.beq f 35 with
  | true => cSame args s
  | false => match Nat.beq f 57 with
  | true => cTexts args s
  | false => match Nat.beq f 19 with
  | true => cHits args s
  | false => match Nat.beq f 20 with
  | true => cLen args s
  | false => match Nat.beq f 8 with
  | true => cNum args s
  | false => match Nat.beq f 5 with
  | true => cLive args s
  | false => match Nat.beq f 4 with
  | true => cLive args s
  | false => none
noncomputable def KR (S : FuncId → List AV → St → Out → Prop) : CallF := KC Tryz.prog [] spC S
def C0 : FuncId → List AV → St → Out → Prop := fun _ _ _ _ => True
theorem kr_ok {S : FuncId → List AV → St → Out → Prop} : KOK Tryz.prog [] (KR S) := kc_ok
theorem kr_fn {S : FuncId → List AV → St → Out → Prop} {f : FuncId} {args : List AV} {s : St} {v : AV} (hs : spC f args s = some v) (h : Snd Tryz.prog [] f args s [.val v s]) : CallF.fn (KR S) f args s = some [.val v s] := kc_hit hs h
theorem val_at {h h1 : Heap} {F : Nat} {a : AV} {L : List (List AV)} (hw : Wf ⟨h, F⟩) (hl : LstP h ksV a L) (hs : SameH h h1) {i : Nat} (hi : i < L.length) : ∃ b o eo cap k n t, a = .slice b o eo L.length cap ∧ b < ky F 0 ∧ L[i] = [.int .i64 k, .int .i64 n, .str t] ∧ rdAB (hget h1 b) (o + i * 3) 3 = some [.int .i64 k, .int .i64 n, .str t] := by
  obtain ⟨b, o, eo, cap, e, h0, _⟩ := hl.at hi
  obtain ⟨a0, r0, e0, c0, a1, r1, e1, c1, a2, r2, e2, c2, e3⟩ := hl.ok hi
  subst e3 e2 e1
  have ii : ∀ {a : AV}, ckOk (.i .i64) a → ∃ n, a = .int .i64 n := fun {a} hc => by
    cases a <;> simp only [ckOk] at hc
    exact ⟨_, by rw [hc.1]⟩
  obtain ⟨k, rfl⟩ := ii c0
  obtain ⟨n, rfl⟩ := ii c1
  obtain ⟨t, rfl⟩ : ∃ t, a2 = .str t := by
    cases a2 <;> simp only [ckOk] at c2
    exact ⟨_, rfl⟩
  rw [e0] at h0
  exact ⟨b, o, eo, cap, k, n, t, e, rd_low hw h0, e0, hs.rd h0⟩
/-- two lists of values from some place on -/
theorem eq_from {V U : List (List AV)} (hl : V.length = U.length) (h : ∀ i : Nat, i < V.length → V[i]? = U[i]?) : V = U := by
  refine List.ext_getElem? fun i => ?_
  by_cases hi : i < V.length
  · exact h i hi
  · rw [List.getElem?_eq_none (by omega), List.getElem?_eq_none (by omega)]
section
variable {S : FuncId → List AV → St → Out → Prop}
set_option maxHeartbeats 4000000 in
theorem eqA (h : Heap) (F : Nat) (a b : AV) (V U : List (List AV)) (hA : LstP h ksV a V) (hB : LstP h ksV b U) : Snd Tryz.prog [] 53 [a, b] ⟨h, F⟩ [.val (.bool (dec (V = U))) ⟨h, F⟩] := by
  refine snd_val (by simp [Kin]) fun hw => ?_
  have mxl : maxLen = 9223372036854775807 := by decide
  have lA := fun (h2 : Heap) => rLen1_L (h2 := h2) Tryz.underlying24 hA
  have lB := fun (h2 : Heap) => rLen1_L (h2 := h2) Tryz.underlying24 hB
  have hlA := hA.len
  refine sndQ_body (K := (KR C0)) kr_ok mixed noNum (m := V.length + 1) Tryz.func53 ?_
  generalize hQ : retQ _ _ _ _ _ _ = Q0
  refine body_go (c := Tryz.f53.body.getD .skip) (n := 26) rfl rfl (by simp only [↓reduceIte, T.setList, T.set_e, T.set_n, Nat.reduceDiv, Nat.reduceMod, Nat.reduceEqDiff, Nat.zero_add] <;> rfl) ?_
  simp only [Tryz.f53, Option.getD_some]
  by_cases hl : V.length = U.length
  rotate_left
  · have n1 : ((V.length : Int) != (U.length : Int)) = true := bne_iff_ne.2 (by omega)
    repeat' (first | refine st ?_ | ((with_reducible apply r_drawL); (focus kernel_rfl); (focus kernel_rfl); (focus (exact sd1))) | ((with_reducible (first | apply r_any | apply r_cond)); focus (simp only [↓reduceIte, clsOf, clsCall, Fr.ev, ofV, ofA, ofS, put_mk, pureOp, readOp, pBin, binA, intOp_neq, List.getElem?_cons_zero, Nat.reduceLT, Nat.reduceEqDiff, Nat.reduceSub, binA, stepOp, stV_mk, T.get_n, T.set_n, T.set_e, Nat.reduceDiv, Nat.reduceMod, stepAny, wantedA_none, rCall, rLen, lA, lB, n1] <;> rfl)))
    subst hQ
    refine ret_back (by simp only [Tryz.results53, resultOf, resultsA, resultA, List.toList_toArray, Fr.ev, T.get_n, Nat.reduceDiv, Nat.reduceMod, Nat.reduceSub, Nat.reduceEqDiff, ↓reduceIte] <;> rfl) ?_
    exact ⟨_, by rw [dec_f (p := V = U) fun e => hl (by rw [e])], Same.base _ _ _⟩
  have n1 : ((V.length : Int) != (U.length : Int)) = false := bne_eq_false_iff_eq.2 (by omega)
  repeat' (first | refine st ?_ | ((with_reducible apply r_drawL); (focus kernel_rfl); (focus kernel_rfl); (focus (exact sd1))) | ((with_reducible (first | apply r_any | apply r_cond)); focus (simp only [↓reduceIte, clsOf, clsCall, Fr.ev, ofV, ofA, ofS, put_mk, pureOp, readOp, pBin, binA, intOp_neq, List.getElem?_cons_zero, Nat.reduceLT, Nat.reduceEqDiff, Nat.reduceSub, binA, stepOp, stV_mk, T.get_n, T.set_n, T.set_e, Nat.reduceDiv, Nat.reduceMod, stepAny, wantedA_none, rCall, rLen, lA, lB, n1] <;> rfl)))
  refine r_loop (I := fun nn fr s1 => ∃ lc tt i, fr = ⟨F, lc, 26, tt, [], .no⟩ ∧ s1 = ⟨h, F + 1⟩ ∧ i ≤ V.length ∧ nn = V.length - i ∧ lc + nn * 1000 ≤ 100000000000000000000000000 ∧ (∀ j : Nat, j < i → V[j]? = U[j]?) ∧ tt.get 0 = some a ∧ tt.get 1 = some b ∧ tt.get 12 = some (.int .i64 (V.length : Int)) ∧ tt.get 13 = some (.int .i64 (i : Int))) (n := V.length) ?_ ?_ ?_
  · omega
  · exact ⟨_, _, 0, rfl, rfl, Nat.zero_le _, (Nat.sub_zero _).symm, by omega, fun j hj => absurd hj (Nat.not_lt_zero _), sd8, sd8, sd8, sd8⟩
  rintro nn fr s1 ⟨lc, tt, i, rfl, rfl, hi, rfl, hlc, hI, u0, u1, u12, u13⟩
  by_cases hil : i < V.length
  rotate_left
  · repeat' (first | refine st ?_ | ((with_reducible apply r_drawL); (focus kernel_rfl); (focus kernel_rfl); (focus (exact sd1))) | ((with_reducible (first | apply r_any | apply r_cond)); focus (simp only [↓reduceIte, clsOf, Fr.ev, ofV, ofA, ofS, put_mk, pureOp, pBin, binA, intOp_lss, Nat.reduceLT, binA, stepOp, stV_mk, stepAny, wantedA_none, u12, u13, lt_f hil] <;> rfl)))
    subst hQ
    refine ret_back (by simp only [Tryz.results53, resultOf, resultsA, resultA, List.toList_toArray, Fr.ev, Tget_set, ↓reduceIte] <;> rfl) ?_
    exact ⟨_, by rw [dec_t (p := V = U) (eq_from hl fun j hj => hI j (by omega))], Same.base _ _ _⟩
  have hiu : i < U.length := by omega
  obtain ⟨b1, o1, eo1, cap1, k, n, t, ea, hb1, hV, r1⟩ := val_at hw hA (SameH.refl h) hil
  obtain ⟨b2, o2, eo2, cap2, k', n', t', eb, hb2, hU, r2⟩ := val_at hw hB (SameH.refl h) hiu
  rw [ea] at u0
  rw [eb] at u1
  have ad := intOp_add (P := Tryz.prog) (t := 3) (inR_succ hil hlA)
  by_cases he : V[i] = U[i]
  · rw [hV, hU] at he
    have d1 := dec_t (p := ([AV.int .i64 k, .int .i64 n, .str t] : List AV) = [.int .i64 k', .int .i64 n', .str t']) he
    repeat' (first | refine st ?_ | ((with_reducible apply (r_drawW (id := 6) (js := [0, 1, 2, 3, 4, 5, 6, 7, 8]))); (focus kernel_rfl); (focus kernel_rfl); (focus (exact sd1))) | ((with_reducible apply d_end); (focus (simp only [List.length_cons, List.length_nil, Nat.add_assoc, Nat.reduceAdd, Nat.zero_add] <;> rfl))) | ((with_reducible apply d_any); (focus rfl); (iterate 2 (focus (simp only [↓reduceIte, Bool.not_true, Bool.not_false, clsOf, Fr.ev, put_mk, pureOp, readOp, rLd, someAgg_s, pBin, binA, Nat.reduceLT, Nat.reduceEqDiff, loadA_w, loadW_a, binA, eqGuardOk, Bool.and_true, stepOp, stV_mk, sz64, ag64, stepAny, wantedA_none, readSelf, av_str, av_int, av_agg, avs_nil, avs_cons, Tget_set, u0, u1, pIA_s Tryz.underlying24 sz64 hil, pIA_s Tryz.underlying24 sz64 hiu, r1, r2, ↓eqV100, eg64, d1] <;> rfl))); (focus (first | exact SameH.refl _ | (simp only [sameT, sameS hw]; done)))) | ((with_reducible apply r_drawL); (focus kernel_rfl); (focus kernel_rfl); (focus (exact sd1))) | ((with_reducible (first | apply r_any | apply r_cond)); focus (simp only [↓reduceIte, clsOf, Fr.ev, ofV, ofA, ofS, put_mk, pureOp, pBin, binA, intOp_lss, Nat.reduceLT, Nat.reduceEqDiff, binA, stepOp, stV_mk, stepAny, wantedA_none, Tget_set, u12, u13, lt_t hil, ad] <;> rfl)))
    exact r_rq_n (k := V.length - (i + 1)) (by omega) ⟨_, _, i + 1, rfl, rfl, by omega, rfl, by omega, fun j hj => by
      by_cases hji : j < i
      · exact hI j hji
      · rw [show j = i by omega, List.getElem?_eq_getElem hil, List.getElem?_eq_getElem hiu, hV, hU, he], (by first | (simp only [Tget_set, Nat.reduceEqDiff, ↓reduceIte, u0, ea] <;> rfl) | rfl), (by first | (simp only [Tget_set, Nat.reduceEqDiff, ↓reduceIte, u1, eb] <;> rfl) | rfl), sd8, sd8⟩
  · have hne : ¬ V = U := fun e => he (by subst e; rfl)
    rw [hV, hU] at he
    have d1 := dec_f (p := ([AV.int .i64 k, .int .i64 n, .str t] : List AV) = [.int .i64 k', .int .i64 n', .str t']) he
    repeat' (first | refine st ?_ | ((with_reducible apply (r_drawW (id := 6) (js := [0, 1, 2, 3, 4, 5, 6, 7, 8]))); (focus kernel_rfl); (focus kernel_rfl); (focus (exact sd1))) | ((with_reducible apply d_end); (focus (simp only [List.length_cons, List.length_nil, Nat.add_assoc, Nat.reduceAdd, Nat.zero_add] <;> rfl))) | ((with_reducible apply d_any); (focus rfl); (iterate 2 (focus (simp only [↓reduceIte, Bool.not_false, clsOf, Fr.ev, put_mk, pureOp, readOp, rLd, someAgg_s, pBin, binA, Nat.reduceLT, Nat.reduceEqDiff, loadA_w, loadW_a, binA, eqGuardOk, Bool.and_true, stepOp, stV_mk, sz64, ag64, stepAny, wantedA_none, readSelf, av_str, av_int, av_agg, avs_nil, avs_cons, Tget_set, u0, u1, pIA_s Tryz.underlying24 sz64 hil, pIA_s Tryz.underlying24 sz64 hiu, r1, r2, ↓eqV100, eg64, d1] <;> rfl))); (focus (first | exact SameH.refl _ | (simp only [sameT, sameS hw]; done)))) | ((with_reducible apply r_drawL); (focus kernel_rfl); (focus kernel_rfl); (focus (exact sd1))) | ((with_reducible (first | apply r_any | apply r_cond)); focus (simp only [↓reduceIte, clsOf, Fr.ev, ofV, ofA, ofS, put_mk, pureOp, pBin, binA, intOp_lss, Nat.reduceLT, binA, stepOp, stV_mk, stepAny, wantedA_none, u12, u13, lt_t hil] <;> rfl)))
    subst hQ
    refine ret_back (by simp only [Tryz.results53, resultOf, resultsA, resultA, List.toList_toArray, Fr.ev, Tget_set, ↓reduceIte] <;> rfl) ?_
    exact ⟨_, by rw [dec_f (p := V = U) hne], Same.base _ _ _⟩
theorem k_eq {h h1 : Heap} {F : Nat} {a b : AV} {V U : List (List AV)} (hA : LstP h ksV a V) (hB : LstP h ksV b U) (hs : SameH h h1) : CallF.fn (KR S) 53 [a, b] ⟨h1, F⟩ = some [.val (.bool (dec (V = U))) ⟨h1, F⟩] :=
  kr_fn ((rfl : _ = cEq [a, b] ⟨h1, F⟩).trans (by simp only [cEq, lstOf_same hA hs, lstOf_same hB hs])) (eqA h1 F a b V U (hA.same hs) (hB.same hs))
end

end Go.Proofs.YtmnhaoadhkdinaaGreatDoor

namespace Go.Proofs.YtmnhaoadhkdinaaGreatDoor
open Go Go.Ai
set_option maxRecDepth 100000

theorem str_ne_t {t u : Tx} (h : ¬ t = u) : strOp .neq t u = some (.bool true) := by simp [strOp, h]
theorem str_ne_f (t : Tx) : strOp .neq t t = some (.bool false) := by simp [strOp]
theorem str_eq_t (t : Tx) : strOp .eql t t = some (.bool true) := by simp [strOp]
theorem str_eq_f {t u : Tx} (h : ¬ t = u) : strOp .eql t u = some (.bool false) := by simp [strOp, h]
section
variable {S : FuncId → List AV → St → Out → Prop}
set_option maxHeartbeats 4000000 in
theorem kindA (h : Heap) (F : Nat) (c1 t1 c2 t2 : Int) (n1 n2 : Tx) (a b : AV) (V U : List (List AV)) (hA : LstP h ksV a V) (hB : LstP h ksV b U) : Snd Tryz.prog [] 56 [.agg [.int .i64 c1, .int .u64 t1, .str n1, a], .agg [.int .i64 c2, .int .u64 t2, .str n2, b]] ⟨h, F⟩ [.val (.bool (dec (n1 = n2 ∧ V = U))) ⟨h, F⟩] := by
  refine snd_val (by simp [Kin]) fun hw => ?_
  have mxl : maxLen = 9223372036854775807 := by decide
  have lA := fun (h2 : Heap) => rLen1_L (h2 := h2) Tryz.underlying24 hA
  have lB := fun (h2 : Heap) => rLen1_L (h2 := h2) Tryz.underlying24 hB
  have hlA := hA.len
  by_cases hn : n1 = n2
  rotate_left
  · have e1 := str_ne_t hn
    refine sndQ_body (K := (KR C0)) kr_ok mixed noNum (m := 0) Tryz.func56 ?_
    generalize hQ : retQ _ _ _ _ _ _ = Q0
    refine body_go (c := Tryz.f56.body.getD .skip) (n := 38) rfl rfl (by simp only [↓reduceIte, T.setList, T.set_e, T.set_n, Nat.reduceDiv, Nat.reduceMod, Nat.reduceEqDiff, Nat.zero_add] <;> rfl) ?_
    simp only [Tryz.f56, Option.getD_some]
    repeat' (first | refine st ?_ | ((with_reducible apply r_drawL); (focus kernel_rfl); (focus kernel_rfl); (focus (exact sd1))) | ((with_reducible (first | apply r_any | apply r_cond)); focus (simp only [↓reduceIte, wantedA_eq, gBool_f, Bool.not_true, clsOf, newBlk, allocOp, Fr.ev, ofV, ofA, ofS, nVar, AV.cells, rowOf_mk, put_mk, upd_mk, keyOf_mk, ky_inj, pureOp, readOp, pFA, pFA1, pFA2, rLd, rdAB_row, oneCell_one, hget_same, hget_hset_ite, pBin, binA, pPick, List.length_cons, List.length_nil, List.getElem?_cons_zero, List.getElem?_cons_succ, List.drop_zero, List.drop_succ_cons, List.take_succ_cons, List.take_zero, Nat.zero_add, Nat.add_zero, Nat.reduceAdd, Nat.reduceLT, Nat.reduceLeDiff, Nat.reduceEqDiff, Nat.reduceSub, Nat.add_eq, loadA_w, loadW_s, binA, stepOp, stV_mk, stB_mk, T.get_n, T.set_n, T.set_e, Nat.reduceDiv, Nat.reduceMod, sz9, ag9, Tryz.underlying26, stepAny, wantedA_none, e1] <;> rfl)))
    subst hQ
    refine ret_back (by simp only [Tryz.results56, resultOf, resultsA, resultA, List.toList_toArray, Fr.ev, T.get_n, Nat.reduceDiv, Nat.reduceMod, Nat.reduceSub, Nat.reduceEqDiff, ↓reduceIte] <;> rfl) ?_
    exact ⟨_, out_eq (by rw [dec_f (p := n1 = n2 ∧ V = U) fun e => hn e.1]), by repeat (first | exact Same.base _ _ _ | refine Same.hset hw ?_ (ky_le _ _))⟩
  subst hn
  have e1 := str_ne_f n1
  by_cases hl : V.length = U.length
  rotate_left
  · have e2 : ((V.length : Int) != (U.length : Int)) = true := bne_iff_ne.2 (by omega)
    refine sndQ_body (K := (KR C0)) kr_ok mixed noNum (m := 0) Tryz.func56 ?_
    generalize hQ : retQ _ _ _ _ _ _ = Q0
    refine body_go (c := Tryz.f56.body.getD .skip) (n := 38) rfl rfl (by simp only [↓reduceIte, T.setList, T.set_e, T.set_n, Nat.reduceDiv, Nat.reduceMod, Nat.reduceEqDiff, Nat.zero_add] <;> rfl) ?_
    simp only [Tryz.f56, Option.getD_some]
    repeat' (first | refine st ?_ | ((with_reducible apply r_drawL); (focus kernel_rfl); (focus kernel_rfl); (focus (exact sd1))) | ((with_reducible (first | apply r_any | apply r_cond)); focus (simp only [↓reduceIte, clsOf, clsCall, newBlk, allocOp, Fr.ev, ofV, ofA, ofS, nVar, AV.cells, rowOf_mk, put_mk, upd_mk, keyOf_mk, ky_inj, pureOp, readOp, pFA, pFA1, pFA2, rLd, rdAB_row, oneCell_one, hget_same, hget_hset_ite, pBin, binA, intOp_neq, pPick, List.length_cons, List.length_nil, List.getElem?_cons_zero, List.getElem?_cons_succ, List.drop_zero, List.drop_succ_cons, List.take_succ_cons, List.take_zero, Nat.zero_add, Nat.add_zero, Nat.reduceAdd, Nat.reduceLT, Nat.reduceLeDiff, Nat.reduceEqDiff, Nat.reduceSub, Nat.add_eq, loadA_w, loadW_s, binA, stepOp, stV_mk, stB_mk, T.get_n, T.set_n, T.set_e, Nat.reduceDiv, Nat.reduceMod, sz9, ag9, sz24, ag24, Tryz.underlying26, stepAny, wantedA_none, rCall, rLen, e1, e2, lA, lB] <;> rfl)))
    subst hQ
    refine ret_back (by simp only [Tryz.results56, resultOf, resultsA, resultA, List.toList_toArray, Fr.ev, T.get_n, Nat.reduceDiv, Nat.reduceMod, Nat.reduceSub, Nat.reduceEqDiff, ↓reduceIte] <;> rfl) ?_
    exact ⟨_, out_eq (by rw [dec_f (p := n1 = n1 ∧ V = U) fun e => hl (by rw [e.2])]), by repeat (first | exact Same.base _ _ _ | refine Same.hset hw ?_ (ky_le _ _))⟩
  have e2 : ((V.length : Int) != (U.length : Int)) = false := bne_eq_false_iff_eq.2 (by omega)
  refine sndQ_body (K := (KR C0)) kr_ok mixed noNum (m := V.length + 1) Tryz.func56 ?_
  generalize hQ : retQ _ _ _ _ _ _ = Q0
  refine body_go (c := Tryz.f56.body.getD .skip) (n := 38) rfl rfl (by simp only [↓reduceIte, T.setList, T.set_e, T.set_n, Nat.reduceDiv, Nat.reduceMod, Nat.reduceEqDiff, Nat.zero_add] <;> rfl) ?_
  simp only [Tryz.f56, Option.getD_some]
  repeat' (first | refine st ?_ | ((with_reducible apply r_drawL); (focus kernel_rfl); (focus kernel_rfl); (focus (exact sd1))) | ((with_reducible (first | apply r_any | apply r_cond)); focus (simp only [↓reduceIte, clsOf, clsCall, newBlk, allocOp, Fr.ev, ofV, ofA, ofS, nVar, AV.cells, rowOf_mk, put_mk, upd_mk, keyOf_mk, ky_inj, pureOp, readOp, pFA, pFA1, pFA2, rLd, rdAB_row, oneCell_one, hget_same, hget_hset_ite, pBin, binA, intOp_neq, pPick, List.length_cons, List.length_nil, List.getElem?_cons_zero, List.getElem?_cons_succ, List.drop_zero, List.drop_succ_cons, List.take_succ_cons, List.take_zero, Nat.zero_add, Nat.add_zero, Nat.reduceAdd, Nat.reduceLT, Nat.reduceLeDiff, Nat.reduceEqDiff, Nat.reduceSub, Nat.add_eq, loadA_w, loadW_s, binA, stepOp, stV_mk, stB_mk, T.get_n, T.set_n, T.set_e, Nat.reduceDiv, Nat.reduceMod, sz9, ag9, sz24, ag24, Tryz.underlying26, stepAny, wantedA_none, rCall, rLen, e1, e2, lA, lB] <;> rfl)))
  refine r_loop (I := fun nn fr s1 => ∃ lc tt i, fr = ⟨F, lc, 38, tt, [], .no⟩ ∧ s1 = ⟨(hset (hset h (ky F 0) (mkRow [.int .i64 c1, .int .u64 t1, .str n1, a] 0)) (ky F 1) (mkRow [.int .i64 c2, .int .u64 t2, .str n1, b] 0)), F + 1⟩ ∧ i ≤ V.length ∧ nn = V.length - i ∧ lc + nn * 1000 ≤ 100000000000000000000000000 ∧ (∀ j : Nat, j < i → V[j]? = U[j]?) ∧ tt.get 2 = some (.ptr (ky F 0) 0) ∧ tt.get 3 = some (.ptr (ky F 1) 0) ∧ tt.get 5 = some (.int .i64 (i : Int))) (n := V.length) ?_ ?_ ?_
  · omega
  · exact ⟨_, _, 0, rfl, rfl, Nat.zero_le _, (Nat.sub_zero _).symm, by omega, fun j hj => absurd hj (Nat.not_lt_zero _), sd8, sd8, sd8⟩
  rintro nn fr s1 ⟨lc, tt, i, rfl, rfl, hi, rfl, hlc, hI, u2, u3, u5⟩
  by_cases hil : i < V.length
  rotate_left
  · repeat' (first | refine st ?_ | ((with_reducible apply r_drawL); (focus kernel_rfl); (focus kernel_rfl); (focus (exact sd1))) | ((with_reducible (first | apply r_any | apply r_cond)); focus (simp only [↓reduceIte, clsOf, clsCall, Fr.ev, ofV, ofA, ofS, put_mk, ky_inj, pureOp, readOp, pFA, pFA1, pFA2, rLd, rdAB_row, oneCell_one, hget_same, hget_hset_ite, pBin, binA, intOp_lss, List.length_cons, List.length_nil, List.getElem?_cons_zero, List.getElem?_cons_succ, List.drop_zero, List.drop_succ_cons, List.take_succ_cons, List.take_zero, Nat.zero_add, Nat.reduceAdd, Nat.reduceLT, Nat.reduceLeDiff, Nat.reduceEqDiff, Nat.add_eq, loadA_w, loadW_s, binA, stepOp, stV_mk, sz24, ag24, Tryz.underlying26, stepAny, wantedA_none, rCall, rLen, Tget_set, u2, lA, lt_f hil] <;> rfl)))
    subst hQ
    refine ret_back (by simp only [Tryz.results56, resultOf, resultsA, resultA, List.toList_toArray, Fr.ev, Tget_set, ↓reduceIte] <;> rfl) ?_
    exact ⟨_, out_eq (by rw [dec_t (p := n1 = n1 ∧ V = U) ⟨rfl, eq_from hl fun j hj => hI j (by omega)⟩]), by repeat (first | exact Same.base _ _ _ | refine Same.hset hw ?_ (ky_le _ _))⟩
  have hiu : i < U.length := by omega
  have ad := intOp_add (P := Tryz.prog) (t := 3) (inR_succ hil hlA)
  obtain ⟨b1, o1, eo1, cap1, k, n, t, rfl, hb1, hV, r1⟩ := val_at hw hA (SameH.refl h) hil
  obtain ⟨b2, o2, eo2, cap2, k', n', t', rfl, hb2, hU, r2⟩ := val_at hw hB (SameH.refl h) hiu
  by_cases he : V[i] = U[i]
  · rw [hV, hU] at he
    have d1 := dec_t (p := ([AV.int .i64 k, .int .i64 n, .str t] : List AV) = [.int .i64 k', .int .i64 n', .str t']) he
    repeat' (first | refine st ?_ | ((with_reducible apply (r_drawW (id := 6) (js := [0, 1, 2, 3, 4, 5, 6, 7, 8, 9, 10]))); (focus kernel_rfl); (focus kernel_rfl); (focus (exact sd1))) | ((with_reducible apply d_end); (focus (simp only [List.length_cons, List.length_nil, Nat.add_assoc, Nat.reduceAdd, Nat.zero_add] <;> rfl))) | ((with_reducible apply d_any); (focus rfl); (iterate 2 (focus (simp only [↓reduceIte, Bool.not_true, Bool.not_false, clsOf, Fr.ev, put_mk, ky_inj, pureOp, readOp, pFA, pFA1, pFA2, rLd, rdAB_row, oneCell_one, someAgg_s, hget_same, hget_hset_ite, pBin, binA, List.length_cons, List.length_nil, List.getElem?_cons_zero, List.getElem?_cons_succ, List.drop_zero, List.drop_succ_cons, List.take_succ_cons, List.take_zero, Nat.zero_add, Nat.reduceAdd, Nat.reduceLT, Nat.reduceLeDiff, Nat.reduceEqDiff, Nat.add_eq, loadA_w, loadW_a, loadW_s, binA, eqGuardOk, Bool.and_true, stepOp, stV_mk, sz24, ag24, Tryz.underlying26, sz64, ag64, stepAny, wantedA_none, readSelf, av_str, av_int, av_sl, av_agg, avs_nil, avs_cons, Tget_set, u2, u3, u5, pIA_s Tryz.underlying24 sz64 hil, pIA_s Tryz.underlying24 sz64 hiu, r1, r2, ky_old hb1, ky_old hb2, ↓eqV100, eg64, d1] <;> rfl))); (focus (first | exact SameH.refl _ | (simp only [sameT, sameS hw]; done)))) | ((with_reducible apply r_drawL); (focus kernel_rfl); (focus kernel_rfl); (focus (exact sd1))) | ((with_reducible (first | apply r_any | apply r_cond)); focus (simp only [↓reduceIte, clsOf, clsCall, Fr.ev, ofV, ofA, ofS, put_mk, ky_inj, pureOp, readOp, pFA, pFA1, pFA2, rLd, rdAB_row, oneCell_one, hget_same, hget_hset_ite, pBin, binA, intOp_lss, List.length_cons, List.length_nil, List.getElem?_cons_zero, List.getElem?_cons_succ, List.drop_zero, List.drop_succ_cons, List.take_succ_cons, List.take_zero, Nat.zero_add, Nat.reduceAdd, Nat.reduceLT, Nat.reduceLeDiff, Nat.reduceEqDiff, Nat.add_eq, loadA_w, loadW_s, binA, stepOp, stV_mk, sz24, ag24, Tryz.underlying26, stepAny, wantedA_none, rCall, rLen, Tget_set, u2, lA, lt_t hil, ad] <;> rfl)))
    exact r_rq_n (k := V.length - (i + 1)) (by omega) ⟨_, _, i + 1, rfl, rfl, by omega, rfl, by omega, fun j hj => by
      by_cases hji : j < i
      · exact hI j hji
      · rw [show j = i by omega, List.getElem?_eq_getElem hil, List.getElem?_eq_getElem hiu, hV, hU, he], sd8, sd8, sd8⟩
  · have hne : ¬ V = U := fun e => he (by subst e; rfl)
    rw [hV, hU] at he
    have d1 := dec_f (p := ([AV.int .i64 k, .int .i64 n, .str t] : List AV) = [.int .i64 k', .int .i64 n', .str t']) he
    repeat' (first | refine st ?_ | ((with_reducible apply (r_drawW (id := 6) (js := [0, 1, 2, 3, 4, 5, 6, 7, 8, 9, 10]))); (focus kernel_rfl); (focus kernel_rfl); (focus (exact sd1))) | ((with_reducible apply d_end); (focus (simp only [List.length_cons, List.length_nil, Nat.add_assoc, Nat.reduceAdd, Nat.zero_add] <;> rfl))) | ((with_reducible apply d_any); (focus rfl); (iterate 2 (focus (simp only [↓reduceIte, Bool.not_false, clsOf, Fr.ev, put_mk, ky_inj, pureOp, readOp, pFA, pFA1, pFA2, rLd, rdAB_row, oneCell_one, someAgg_s, hget_same, hget_hset_ite, pBin, binA, List.length_cons, List.length_nil, List.getElem?_cons_zero, List.getElem?_cons_succ, List.drop_zero, List.drop_succ_cons, List.take_succ_cons, List.take_zero, Nat.zero_add, Nat.reduceAdd, Nat.reduceLT, Nat.reduceLeDiff, Nat.reduceEqDiff, Nat.add_eq, loadA_w, loadW_a, loadW_s, binA, eqGuardOk, Bool.and_true, stepOp, stV_mk, sz24, ag24, Tryz.underlying26, sz64, ag64, stepAny, wantedA_none, readSelf, av_str, av_int, av_sl, av_agg, avs_nil, avs_cons, Tget_set, u2, u3, u5, pIA_s Tryz.underlying24 sz64 hil, pIA_s Tryz.underlying24 sz64 hiu, r1, r2, ky_old hb1, ky_old hb2, ↓eqV100, eg64, d1] <;> rfl))); (focus (first | exact SameH.refl _ | (simp only [sameT, sameS hw]; done)))) | ((with_reducible apply r_drawL); (focus kernel_rfl); (focus kernel_rfl); (focus (exact sd1))) | ((with_reducible (first | apply r_any | apply r_cond)); focus (simp only [↓reduceIte, clsOf, clsCall, Fr.ev, ofV, ofA, ofS, put_mk, ky_inj, pureOp, readOp, pFA, pFA1, pFA2, rLd, rdAB_row, oneCell_one, hget_same, hget_hset_ite, pBin, binA, intOp_lss, List.length_cons, List.length_nil, List.getElem?_cons_zero, List.getElem?_cons_succ, List.drop_zero, List.drop_succ_cons, List.take_succ_cons, List.take_zero, Nat.zero_add, Nat.reduceAdd, Nat.reduceLT, Nat.reduceLeDiff, Nat.reduceEqDiff, Nat.add_eq, loadA_w, loadW_s, binA, stepOp, stV_mk, sz24, ag24, Tryz.underlying26, stepAny, wantedA_none, rCall, rLen, Tget_set, u2, lA, lt_t hil] <;> rfl)))
    subst hQ
    refine ret_back (by simp only [Tryz.results56, resultOf, resultsA, resultA, List.toList_toArray, Fr.ev, Tget_set, ↓reduceIte] <;> rfl) ?_
    exact ⟨_, out_eq (by rw [dec_f (p := n1 = n1 ∧ V = U) fun e => hne e.2]), by repeat (first | exact Same.base _ _ _ | refine Same.hset hw ?_ (ky_le _ _))⟩
theorem k_kind {h h1 : Heap} {F : Nat} {c1 t1 c2 t2 : Int} {n1 n2 : Tx} {a b : AV} {V U : List (List AV)} (hA : LstP h ksV a V) (hB : LstP h ksV b U) (hs : SameH h h1) : CallF.fn (KR S) 56 [.agg [.int .i64 c1, .int .u64 t1, .str n1, a], .agg [.int .i64 c2, .int .u64 t2, .str n2, b]] ⟨h1, F⟩ = some [.val (.bool (dec (n1 = n2 ∧ V = U))) ⟨h1, F⟩] :=
  kr_fn ((rfl : _ = cKind [.agg [.int .i64 c1, .int .u64 t1, .str n1, a], .agg [.int .i64 c2, .int .u64 t2, .str n2, b]] ⟨h1, F⟩).trans (by simp only [cKind, lstOf_same hA hs, lstOf_same hB hs])) (kindA h1 F c1 t1 c2 t2 n1 n2 a b V U (hA.same hs) (hB.same hs))
end

end Go.Proofs.YtmnhaoadhkdinaaGreatDoor

namespace Go.Proofs.YtmnhaoadhkdinaaGreatDoor
open Go Go.Ai
set_option maxRecDepth 100000

theorem rq_2 {h : Heap} {k : Nat} {x y z u : AV} (hb : rdAB (hget h k) 0 4 = some [x, y, z, u]) : rdAB (hget h k) 2 1 = some [z] ∧ rdAB (hget h k) 3 1 = some [u] := by
  have h2 := rdAB_part hb (k := 2) (j := 1) (by decide)
  have h3 := rdAB_part hb (k := 3) (j := 1) (by decide)
  exact ⟨h2, h3⟩
section
variable {S : FuncId → List AV → St → Out → Prop}
set_option maxHeartbeats 4000000 in
theorem find1A (h : Heap) (F k : Nat) (c t how : Int) (n m : Tx) (a r w i b x y : AV) (V U : List (List AV)) (hk : k < ky F 0) (hb : rdAB (hget h k) 0 4 = some [x, y, .str m, b]) (hA : LstP h ksV a V) (hB : LstP h ksV b U) (ir : isCell r = true) (iw : isCell w = true) (ii : isCell i = true) : Snd Tryz.prog [] 52 [.agg [.int .i64 c, .int .u64 t, .str n, a, .int .i64 how, r, w, i], .ptr k 0] ⟨h, F⟩ [.val (.bool (dec (n = m ∧ V = U))) ⟨h, F⟩] := by
  refine snd_val (by simp [Kin]) fun hw => ?_
  obtain ⟨q2, q3⟩ := rq_2 hb
  by_cases hn : n = m
  rotate_left
  · have e1 := str_eq_f hn
    refine sndQ_body (K := (KR C0)) kr_ok mixed noNum (m := 0) Tryz.func52 ?_
    generalize hQ : retQ _ _ _ _ _ _ = Q0
    refine body_go (c := Tryz.f52.body.getD .skip) (n := 20) rfl rfl (by simp only [↓reduceIte, T.setList, T.set_e, T.set_n, Nat.reduceDiv, Nat.reduceMod, Nat.reduceEqDiff, Nat.zero_add] <;> rfl) ?_
    simp only [Tryz.f52, Option.getD_some]
    repeat' (first | refine st ?_ | ((with_reducible (first | apply r_any | apply r_cond)); focus (simp only [↓reduceIte, wantedA_eq, gBool_t, clsOf, newBlk, allocOp, Fr.ev, ofV, ofA, ofS, nVar, AV.cells, rowOf_mk, put_mk, upd_mk, keyOf_mk, pureOp, readOp, pFA, pFA1, pFA2, rLd, rdAB_row, oneCell_one, hget_same, hget_hset_ite, pBin, binA, pPick, List.length_cons, List.length_nil, List.getElem?_cons_zero, List.getElem?_cons_succ, List.drop_zero, List.drop_succ_cons, List.take_succ_cons, List.take_zero, Nat.zero_add, Nat.add_zero, Nat.reduceAdd, Nat.reduceLT, Nat.reduceLeDiff, Nat.reduceEqDiff, Nat.reduceSub, Nat.add_eq, loadA_w, loadW_s, binA, stepOp, stV_mk, stB_mk, T.get_n, T.set_n, T.set_e, Nat.reduceDiv, Nat.reduceMod, sz9, ag9, sz26, Tryz.underlying26, sz31, Tryz.underlying31, Tryz.underlying34, stepAny, wantedA_none, e1, q2, ky_old hk] <;> rfl)))
    subst hQ
    refine ret_back (by simp only [Tryz.results52, resultOf, resultsA, resultA, List.toList_toArray, Fr.ev, Tget_set, ↓reduceIte] <;> rfl) ?_
    exact ⟨_, out_eq (by rw [dec_f (p := n = m ∧ V = U) fun e => hn e.1]), by repeat (first | exact Same.base _ _ _ | refine Same.hset hw ?_ (ky_le _ _))⟩
  subst hn
  have e1 := str_eq_t n
  have ke := fun (hh : Heap) (hs : SameH h hh) => k_eq (S := C0) (F := F + 1) hA hB hs
  obtain ⟨v, hv⟩ : ∃ v, v = dec (V = U) := ⟨_, rfl⟩
  have hr : dec (n = n ∧ V = U) = v := by
    rw [hv]
    by_cases e : V = U
    · rw [dec_t (p := n = n ∧ V = U) ⟨rfl, e⟩, dec_t e]
    · rw [dec_f (p := n = n ∧ V = U) fun h => e h.2, dec_f e]
  rw [← hv] at ke
  refine sndQ_body (K := (KR C0)) kr_ok mixed noNum (m := 0) Tryz.func52 ?_
  generalize hQ : retQ _ _ _ _ _ _ = Q0
  refine body_go (c := Tryz.f52.body.getD .skip) (n := 20) rfl rfl (by simp only [↓reduceIte, T.setList, T.set_e, T.set_n, Nat.reduceDiv, Nat.reduceMod, Nat.reduceEqDiff, Nat.zero_add] <;> rfl) ?_
  simp only [Tryz.f52, Option.getD_some]
  repeat' (first | refine st ?_ | ((with_reducible (first | apply r_any | apply r_cond)); focus (simp only [↓reduceIte, clsOf, clsCall, newBlk, allocOp, Fr.ev, evs, ofV, ofA, ofS, nVar, AV.cells, rowOf_mk, put_mk, upd_mk, keyOf_mk, pureOp, readOp, pFA, pFA1, pFA2, rLd, rdAB_row, oneCell_one, hget_same, hget_hset_ite, pBin, binA, pPick, List.length_cons, List.length_nil, List.getElem?_cons_zero, List.getElem?_cons_succ, List.drop_zero, List.drop_succ_cons, List.take_succ_cons, List.take_zero, Nat.zero_add, Nat.add_zero, Nat.reduceAdd, Nat.reduceLT, Nat.reduceLeDiff, Nat.reduceEqDiff, Nat.reduceSub, Nat.add_eq, loadA_w, loadW_s, callTo_s, heavyCall, target, List.nil_append, List.append_nil, binA, stepOp, stHeavy, stV_mk, stB_mk, stO_mk, T.get_n, T.set_n, T.set_e, Nat.reduceDiv, Nat.reduceMod, sz9, ag9, sz24, ag24, sz26, Tryz.underlying26, sz31, Tryz.underlying31, Tryz.underlying34, stepAny, wantedA_none, e1, q2, q3, ky_old hk, ke, sameS hw, sameT] <;> rfl)))
  subst hQ
  refine ret_back (by simp only [Tryz.results52, resultOf, resultsA, resultA, List.toList_toArray, Fr.ev, Tget_set, ↓reduceIte] <;> rfl) ?_
  exact ⟨_, out_eq (by rw [hr]), by repeat (first | exact Same.base _ _ _ | refine Same.hset hw ?_ (ky_le _ _))⟩
theorem k_find1 {h h1 : Heap} {F k : Nat} {c t how : Int} {n m : Tx} {a r w i b x y : AV} {V U : List (List AV)} (hk : k < ky F 0) (hb : rdAB (hget h k) 0 4 = some [x, y, .str m, b]) (hA : LstP h ksV a V) (hB : LstP h ksV b U) (ir : isCell r = true) (iw : isCell w = true) (ii : isCell i = true) (hs : SameH h h1) : CallF.fn (KR S) 52 [.agg [.int .i64 c, .int .u64 t, .str n, a, .int .i64 how, r, w, i], .ptr k 0] ⟨h1, F⟩ = some [.val (.bool (dec (n = m ∧ V = U))) ⟨h1, F⟩] :=
  kr_fn ((rfl : _ = cFind1 [.agg [.int .i64 c, .int .u64 t, .str n, a, .int .i64 how, r, w, i], .ptr k 0] ⟨h1, F⟩).trans (by simp only [cFind1, rqO, hs.rd hb, lstOf_same hA hs, lstOf_same hB hs])) (find1A h1 F k c t how n m a r w i b x y V U hk (hs.rd hb) (hA.same hs) (hB.same hs) ir iw ii)
/-- a kept pass, cell by cell -/
theorem pas_at {h : Heap} {F : Nat} {Q : Nat → Nat → Prop} {G : Nat} {l : AV} {X : List (List AV)} {L : List PV} (hw : Wf ⟨h, F⟩) (hl : LstP h ksP l X) (k : Kept Q G h X L) {j : Nat} (hj : j < L.length) : ∃ b o eo cap a r w i p, l = .slice b o eo L.length cap ∧ b < ky F 0 ∧ L[j]? = some p ∧ rdAB (hget h b) (o + j * 8) 8 = some [.int .i64 p.cl, .int .u64 p.tok, .str p.nm, a, .int .i64 p.how, r, w, i] ∧ LstP h ksV a p.args ∧ LstP h ksT r (tL p.rd) ∧ LstP h ksT w (tL p.wr) ∧ LstP h ksIt i p.it := by
  have hX : j < X.length := by rw [k.1]; exact hj
  obtain ⟨b, o, eo, cap, e, h0, _⟩ := hl.at hX
  have hp : L[j]? = some L[j] := List.getElem?_eq_getElem hj
  obtain ⟨A, B, _, _, _, a, r, w, i, ex, h2, h3, h4, h5⟩ := k.2 j X[j] L[j] (List.getElem?_eq_getElem hX) hp
  rw [ex] at h0
  exact ⟨b, o, eo, cap, a, r, w, i, L[j], by rw [e, k.1], rd_low hw h0, hp, h0, h2.p, h3.p, h4.p, h5.p⟩
set_option maxHeartbeats 4000000 in
theorem idxA (h : Heap) (F k : Nat) (l b x y : AV) (m : Tx) (U : List (List AV)) (Q : Nat → Nat → Prop) (G : Nat) (X : List (List AV)) (L : List PV) (hk : k < ky F 0) (hb : rdAB (hget h k) 0 4 = some [x, y, .str m, b]) (hB : LstP h ksV b U) (hl : LstP h ksP l X) (kp : Kept Q G h X L) : Snd Tryz.prog [] 51 [l, .fn (.func 52) [] [.ptr k 0]] ⟨h, F⟩ [.val (.int .i64 (idxP (fndP m U L))) ⟨h, F⟩] := by
  refine snd_val (by simp [Kin]) fun hw => ?_
  have mxl : maxLen = 9223372036854775807 := by decide
  have lA := fun (h2 : Heap) => rLen1_L (h2 := h2) Tryz.underlying58 hl
  rw [kp.1] at lA
  have hlL := hl.len
  rw [kp.1] at hlL
  refine sndQ_body (K := (KR C0)) kr_ok mixed noNum (m := L.length + 1) Tryz.func51 ?_
  generalize hQ : retQ _ _ _ _ _ _ = Q0
  refine body_go (c := Tryz.f51.body.getD .skip) (n := 19) rfl rfl (by simp only [↓reduceIte, T.setList, T.set_e, T.set_n, Nat.reduceDiv, Nat.reduceMod, Nat.reduceEqDiff, Nat.zero_add] <;> rfl) ?_
  simp only [Tryz.f51, Option.getD_some]
  repeat' (first | refine st ?_ | ((with_reducible (first | apply r_any | apply r_cond)); focus (simp only [↓reduceIte, clsOf, clsCall, Fr.ev, ofV, ofA, ofS, put_mk, pureOp, readOp, List.getElem?_cons_zero, Nat.reduceLT, Nat.reduceEqDiff, Nat.reduceSub, stepOp, stV_mk, T.get_n, T.set_n, T.set_e, Nat.reduceDiv, Nat.reduceMod, stepAny, wantedA_none, rCall, rLen, lA] <;> rfl)))
  refine r_loop (I := fun nn fr s1 => ∃ lc tt j, fr = ⟨F, lc, 19, tt, [], .no⟩ ∧ s1 = ⟨h, F + 1⟩ ∧ j ≤ L.length ∧ nn = L.length - j ∧ lc + nn * 1000 ≤ 100000000000000000000000000 ∧ (∀ (i : Nat) (q : PV), i < j → L[i]? = some q → ¬ sameK m U q) ∧ tt.get 0 = some l ∧ tt.get 1 = some (.fn (.func 52) [] [.ptr k 0]) ∧ tt.get 7 = some (.int .i64 (L.length : Int)) ∧ tt.get 8 = some (.int .i64 (j : Int))) (n := L.length) ?_ ?_ ?_
  · omega
  · exact ⟨_, _, 0, rfl, rfl, Nat.zero_le _, (Nat.sub_zero _).symm, by omega, fun i q hi => absurd hi (Nat.not_lt_zero _), sd8, sd8, sd8, sd8⟩
  rintro nn fr s1 ⟨lc, tt, j, rfl, rfl, hj, rfl, hlc, hI, u0, u1, u7, u8⟩
  by_cases hjl : j < L.length
  rotate_left
  · repeat' (first | refine st ?_ | ((with_reducible (first | apply r_any | apply r_cond)); focus (simp only [↓reduceIte, clsOf, Fr.ev, ofV, ofA, ofS, put_mk, pureOp, pBin, binA, intOp_lss, Nat.reduceLT, binA, Int.reduceNeg, stepOp, stV_mk, stepAny, wantedA_none, u7, u8, lt_f hjl] <;> rfl)))
    subst hQ
    refine ret_back (by simp only [Tryz.results51, resultOf, resultsA, resultA, List.toList_toArray, Fr.ev, Tget_set, ↓reduceIte] <;> rfl) ?_
    exact ⟨_, by rw [fnd_none fun i q hq => hI i q (by have := (List.getElem?_eq_some_iff.1 hq).1; omega) hq]; rfl, Same.base _ _ _⟩
  obtain ⟨bb, o, eo, cap, a, r, w, i, p, el, hbb, hp, r0, hA, hR, hW, hT⟩ := pas_at hw hl kp hjl
  rw [el] at u0
  have ad := intOp_add (P := Tryz.prog) (t := 3) (inR_succ hjl hlL)
  have kf := k_find1 (S := C0) (F := F + 1) (c := p.cl) (t := p.tok) (how := p.how) (n := p.nm) (Nat.lt_of_lt_of_le hk (ky_mono (Nat.le_succ F))) hb hA hB (isCell_L hR) (isCell_L hW) (isCell_L hT) (SameH.refl h)
  by_cases hs : sameK m U p
  · have hd := dec_t (p := p.nm = m ∧ p.args = U) hs
    repeat' (first | refine st ?_ | ((with_reducible (first | apply r_any | apply r_cond)); focus (simp only [↓reduceIte, clsOf, clsCall, Fr.ev, evs, put_mk, pureOp, readOp, rLd, someAgg_s, pBin, binA, intOp_lss, Nat.reduceLT, Nat.reduceEqDiff, loadA_w, loadW_a, callTo_s, heavyCall, target, List.nil_append, binA, stepOp, stHeavy, stV_mk, stO_mk, sz34, ag34, stepAny, wantedA_none, Tget_set, u7, u8, lt_t hjl, pIA_s Tryz.underlying58 sz34 hjl, r0, List.cons_append, kf, hd] <;> rfl)))
    subst hQ
    refine ret_back (by simp only [Tryz.results51, resultOf, resultsA, resultA, List.toList_toArray, Fr.ev, Tget_set, ↓reduceIte] <;> rfl) ?_
    exact ⟨_, by rw [fnd_some hp hs fun i q hi hq => hI i q hi hq]; rfl, Same.base _ _ _⟩
  · have hd := dec_f (p := p.nm = m ∧ p.args = U) hs
    repeat' (first | refine st ?_ | ((with_reducible (first | apply r_any | apply r_cond)); focus (simp only [↓reduceIte, clsOf, clsCall, Fr.ev, evs, ofV, ofA, ofS, put_mk, pureOp, readOp, rLd, someAgg_s, pBin, binA, intOp_lss, Nat.reduceLT, Nat.reduceEqDiff, loadA_w, loadW_a, callTo_s, heavyCall, target, List.nil_append, binA, stepOp, stHeavy, stV_mk, stO_mk, sz34, ag34, stepAny, wantedA_none, Tget_set, u7, u8, lt_t hjl, pIA_s Tryz.underlying58 sz34 hjl, r0, List.cons_append, kf, hd, ad] <;> rfl)))
    exact r_rq_n (k := L.length - (j + 1)) (by omega) ⟨_, _, j + 1, rfl, rfl, by omega, rfl, by omega, fun i q hi hq => by
      by_cases hij : i < j
      · exact hI i q hij hq
      · rw [show i = j by omega, hp] at hq
        cases hq
        exact hs, (by first | (simp only [Tget_set, Nat.reduceEqDiff, ↓reduceIte, u0, el] <;> rfl) | rfl), sd8, sd8, sd8⟩
theorem k_idx {h : Heap} {F k : Nat} {l b x y : AV} {m : Tx} {U : List (List AV)} {Q : Nat → Nat → Prop} {G : Nat} {X : List (List AV)} {L : List PV} (hk : k < ky F 0) (hb : rdAB (hget h k) 0 4 = some [x, y, .str m, b]) (hB : LstP h ksV b U) (hl : LstP h ksP l X) (kp : Kept Q G h X L) : CallF.fn (KR S) 51 [l, .fn (.func 52) [] [.ptr k 0]] ⟨h, F⟩ = some [.val (.int .i64 (idxP (fndP m U L))) ⟨h, F⟩] :=
  kr_fn ((rfl : _ = cIdx [l, .fn (.func 52) [] [.ptr k 0]] ⟨h, F⟩).trans (by simp only [cIdx, rqO, hb, lstOf_eq hB, pasO_eq hl kp])) (idxA h F k l b x y m U Q G X L hk hb hB hl kp)
end

end Go.Proofs.YtmnhaoadhkdinaaGreatDoor

namespace Go.Proofs.YtmnhaoadhkdinaaGreatDoor
open Go Go.Ai
set_option maxRecDepth 100000

theorem wIdx_some {m : Tx} {U : List (List AV)} {i : Nat} {c : List AV} (hi : U[i]? = some c) (hc : keyI c = m) (hn : ∀ (j : Nat) (d : List AV), j < i → U[j]? = some d → ¬ keyI d = m) : wIdx m U = (i : Int) := by
  obtain ⟨hl, he⟩ := List.getElem?_eq_some_iff.1 hi
  have : U.findIdx? (fun c => open Classical in decide (keyI c = m)) = some i := by
    rw [List.findIdx?_eq_some_iff_getElem]
    refine ⟨hl, by simp [he, hc], fun j hj => ?_⟩
    simpa using hn j _ hj (List.getElem?_eq_getElem (by omega))
  unfold wIdx
  rw [this]
theorem wIdx_none {m : Tx} {U : List (List AV)} (hn : ∀ (j : Nat) (d : List AV), U[j]? = some d → ¬ keyI d = m) : wIdx m U = -1 := by
  have : U.findIdx? (fun c => open Classical in decide (keyI c = m)) = none := by
    rw [List.findIdx?_eq_none_iff]
    intro d hd
    obtain ⟨j, hj⟩ := List.getElem?_of_mem hd
    simpa using hn j d hj
  unfold wIdx
  rw [this]
theorem wr_at {h : Heap} {F : Nat} {w : AV} {U : List (List AV)} (hw : Wf ⟨h, F⟩) (hl : LstP h ksW w U) {j : Nat} (hj : j < U.length) : ∃ b o eo cap k g v0 v1 t, w = .slice b o eo U.length cap ∧ b < ky F 0 ∧ U[j]? = some [.str k, .bool g, .int .i64 v0, .int .i64 v1, .str t] ∧ rdAB (hget h b) (o + j * 5) 5 = some [.str k, .bool g, .int .i64 v0, .int .i64 v1, .str t] := by
  obtain ⟨b, o, eo, cap, e, h0, _⟩ := hl.at hj
  obtain ⟨a0, r0, e0, c0, a1, r1, e1, c1, a2, r2, e2, c2, a3, r3, e3, c3, a4, r4, e4, c4, e5⟩ := hl.ok hj
  subst e5 e4 e3 e2 e1
  have ii : ∀ {a : AV}, ckOk (.i .i64) a → ∃ n, a = .int .i64 n := fun {a} hc => by
    cases a <;> simp only [ckOk] at hc
    exact ⟨_, by rw [hc.1]⟩
  have ss : ∀ {a : AV}, ckOk .s a → ∃ n, a = .str n := fun {a} hc => by
    cases a <;> simp only [ckOk] at hc
    exact ⟨_, rfl⟩
  obtain ⟨k, rfl⟩ := ss c0
  obtain ⟨g, rfl⟩ : ∃ g, a1 = .bool g := by
    cases a1 <;> simp only [ckOk] at c1
    exact ⟨_, rfl⟩
  obtain ⟨v0, rfl⟩ := ii c2
  obtain ⟨v1, rfl⟩ := ii c3
  obtain ⟨t, rfl⟩ := ss c4
  rw [e0] at h0
  exact ⟨b, o, eo, cap, k, g, v0, v1, t, e, rd_low hw h0, by rw [List.getElem?_eq_getElem hj, e0], h0⟩
section
variable {S : FuncId → List AV → St → Out → Prop}
set_option maxHeartbeats 2000000 in
theorem tou1A (h : Heap) (F b : Nat) (k t m : Tx) (g : Bool) (v0 v1 : Int) (hk : b < ky F 0) (hb : rdAB (hget h b) 0 1 = some [.str m]) : Snd Tryz.prog [] 50 [.agg [.str k, .bool g, .int .i64 v0, .int .i64 v1, .str t], .ptr b 0] ⟨h, F⟩ [.val (.bool (dec (k = m))) ⟨h, F⟩] := by
  refine snd_val (by simp [Kin]) fun hw => ?_
  by_cases hn : k = m
  · subst hn
    have e1 := str_eq_t k
    refine sndQ_body (K := (KR C0)) kr_ok mixed noNum (m := 0) Tryz.func50 ?_
    generalize hQ : retQ _ _ _ _ _ _ = Q0
    refine body_go (c := Tryz.f50.body.getD .skip) (n := 9) rfl rfl (by simp only [↓reduceIte, T.setList, T.set_e, T.set_n, Nat.reduceDiv, Nat.reduceMod, Nat.reduceEqDiff, Nat.zero_add] <;> rfl) ?_
    simp only [Tryz.f50, Option.getD_some]
    repeat' (first | refine st ?_ | ((with_reducible (first | apply r_any | apply r_cond)); focus (simp only [↓reduceIte, clsOf, newBlk, allocOp, Fr.ev, ofV, ofA, ofS, nVar, AV.cells, rowOf_mk, put_mk, upd_mk, keyOf_mk, pureOp, readOp, pFA, pFA1, pFA2, rLd, rdAB_row, oneCell_one, hget_same, hget_hset_ite, pBin, binA, List.length_cons, List.length_nil, List.getElem?_cons_zero, List.drop_zero, List.take_succ_cons, List.take_zero, Nat.zero_add, Nat.add_zero, Nat.reduceAdd, Nat.reduceLT, Nat.reduceLeDiff, Nat.reduceEqDiff, Nat.reduceSub, Nat.add_eq, loadA_w, loadW_s, binA, stepOp, stV_mk, stB_mk, T.get_n, T.set_n, T.set_e, Nat.reduceDiv, Nat.reduceMod, sz9, ag9, Tryz.underlying66, Tryz.underlying68, stepAny, wantedA_none, hb, ky_old hk, e1] <;> rfl)))
    subst hQ
    refine ret_back (by simp only [Tryz.results50, resultOf, resultsA, resultA, List.toList_toArray, Fr.ev, Tget_set, ↓reduceIte] <;> rfl) ?_
    exact ⟨_, out_eq (by rw [dec_t (p := k = k) rfl]), by repeat (first | exact Same.base _ _ _ | refine Same.hset hw ?_ (ky_le _ _))⟩
  · have e1 := str_eq_f hn
    refine sndQ_body (K := (KR C0)) kr_ok mixed noNum (m := 0) Tryz.func50 ?_
    generalize hQ : retQ _ _ _ _ _ _ = Q0
    refine body_go (c := Tryz.f50.body.getD .skip) (n := 9) rfl rfl (by simp only [↓reduceIte, T.setList, T.set_e, T.set_n, Nat.reduceDiv, Nat.reduceMod, Nat.reduceEqDiff, Nat.zero_add] <;> rfl) ?_
    simp only [Tryz.f50, Option.getD_some]
    repeat' (first | refine st ?_ | ((with_reducible (first | apply r_any | apply r_cond)); focus (simp only [↓reduceIte, clsOf, newBlk, allocOp, Fr.ev, ofV, ofA, ofS, nVar, AV.cells, rowOf_mk, put_mk, upd_mk, keyOf_mk, pureOp, readOp, pFA, pFA1, pFA2, rLd, rdAB_row, oneCell_one, hget_same, hget_hset_ite, pBin, binA, List.length_cons, List.length_nil, List.getElem?_cons_zero, List.drop_zero, List.take_succ_cons, List.take_zero, Nat.zero_add, Nat.add_zero, Nat.reduceAdd, Nat.reduceLT, Nat.reduceLeDiff, Nat.reduceEqDiff, Nat.reduceSub, Nat.add_eq, loadA_w, loadW_s, binA, stepOp, stV_mk, stB_mk, T.get_n, T.set_n, T.set_e, Nat.reduceDiv, Nat.reduceMod, sz9, ag9, Tryz.underlying66, Tryz.underlying68, stepAny, wantedA_none, hb, ky_old hk, e1] <;> rfl)))
    subst hQ
    refine ret_back (by simp only [Tryz.results50, resultOf, resultsA, resultA, List.toList_toArray, Fr.ev, Tget_set, ↓reduceIte] <;> rfl) ?_
    exact ⟨_, out_eq (by rw [dec_f (p := k = m) hn]), by repeat (first | exact Same.base _ _ _ | refine Same.hset hw ?_ (ky_le _ _))⟩
theorem k_tou1 {h : Heap} {F b : Nat} {k t m : Tx} {g : Bool} {v0 v1 : Int} (hk : b < ky F 0) (hb : rdAB (hget h b) 0 1 = some [.str m]) : CallF.fn (KR S) 50 [.agg [.str k, .bool g, .int .i64 v0, .int .i64 v1, .str t], .ptr b 0] ⟨h, F⟩ = some [.val (.bool (dec (k = m))) ⟨h, F⟩] :=
  kr_fn ((rfl : _ = cW1 [.agg [.str k, .bool g, .int .i64 v0, .int .i64 v1, .str t], .ptr b 0] ⟨h, F⟩).trans (by simp only [cW1, hb])) (tou1A h F b k t m g v0 v1 hk hb)
set_option maxHeartbeats 4000000 in
theorem wxA (h : Heap) (F b : Nat) (w : AV) (m : Tx) (U : List (List AV)) (hk : b < ky F 0) (hb : rdAB (hget h b) 0 1 = some [.str m]) (hl : LstP h ksW w U) : Snd Tryz.prog [] 72 [w, .fn (.func 50) [] [.ptr b 0]] ⟨h, F⟩ [.val (.int .i64 (wIdx m U)) ⟨h, F⟩] := by
  refine snd_val (by simp [Kin]) fun hw => ?_
  have mxl : maxLen = 9223372036854775807 := by decide
  have lA := fun (h2 : Heap) => rLen1_L (h2 := h2) Tryz.underlying35 hl
  have hlL := hl.len
  refine sndQ_body (K := (KR C0)) kr_ok mixed noNum (m := U.length + 1) Tryz.func72 ?_
  generalize hQ : retQ _ _ _ _ _ _ = Q0
  refine body_go (c := Tryz.f72.body.getD .skip) (n := 19) rfl rfl (by simp only [↓reduceIte, T.setList, T.set_e, T.set_n, Nat.reduceDiv, Nat.reduceMod, Nat.reduceEqDiff, Nat.zero_add] <;> rfl) ?_
  simp only [Tryz.f72, Option.getD_some]
  repeat' (first | refine st ?_ | ((with_reducible (first | apply r_any | apply r_cond)); focus (simp only [↓reduceIte, clsOf, clsCall, Fr.ev, ofV, ofA, ofS, put_mk, pureOp, readOp, List.getElem?_cons_zero, Nat.reduceLT, Nat.reduceEqDiff, Nat.reduceSub, stepOp, stV_mk, T.get_n, T.set_n, T.set_e, Nat.reduceDiv, Nat.reduceMod, stepAny, wantedA_none, rCall, rLen, lA] <;> rfl)))
  refine r_loop (I := fun nn fr s1 => ∃ lc tt j, fr = ⟨F, lc, 19, tt, [], .no⟩ ∧ s1 = ⟨h, F + 1⟩ ∧ j ≤ U.length ∧ nn = U.length - j ∧ lc + nn * 1000 ≤ 100000000000000000000000000 ∧ (∀ (i : Nat) (d : List AV), i < j → U[i]? = some d → ¬ keyI d = m) ∧ tt.get 0 = some w ∧ tt.get 1 = some (.fn (.func 50) [] [.ptr b 0]) ∧ tt.get 7 = some (.int .i64 (U.length : Int)) ∧ tt.get 8 = some (.int .i64 (j : Int))) (n := U.length) ?_ ?_ ?_
  · omega
  · exact ⟨_, _, 0, rfl, rfl, Nat.zero_le _, (Nat.sub_zero _).symm, by omega, fun i q hi => absurd hi (Nat.not_lt_zero _), sd8, sd8, sd8, sd8⟩
  rintro nn fr s1 ⟨lc, tt, j, rfl, rfl, hj, rfl, hlc, hI, u0, u1, u7, u8⟩
  by_cases hjl : j < U.length
  rotate_left
  · repeat' (first | refine st ?_ | ((with_reducible (first | apply r_any | apply r_cond)); focus (simp only [↓reduceIte, clsOf, Fr.ev, ofV, ofA, ofS, put_mk, pureOp, pBin, binA, intOp_lss, Nat.reduceLT, binA, Int.reduceNeg, stepOp, stV_mk, stepAny, wantedA_none, u7, u8, lt_f hjl] <;> rfl)))
    subst hQ
    refine ret_back (by simp only [Tryz.results72, resultOf, resultsA, resultA, List.toList_toArray, Fr.ev, Tget_set, ↓reduceIte] <;> rfl) ?_
    exact ⟨_, by rw [wIdx_none fun i q hq => hI i q (by have := (List.getElem?_eq_some_iff.1 hq).1; omega) hq], Same.base _ _ _⟩
  obtain ⟨bb, o, eo, cap, k, g, v0, v1, t, el, hbb, hp, r0⟩ := wr_at hw hl hjl
  rw [el] at u0
  have ad := intOp_add (P := Tryz.prog) (t := 3) (inR_succ hjl hlL)
  have kf := k_tou1 (S := C0) (F := F + 1) (k := k) (t := t) (g := g) (v0 := v0) (v1 := v1) (Nat.lt_of_lt_of_le hk (ky_mono (Nat.le_succ F))) hb
  by_cases hs : k = m
  · have hd := dec_t (p := k = m) hs
    repeat' (first | refine st ?_ | ((with_reducible (first | apply r_any | apply r_cond)); focus (simp only [↓reduceIte, clsOf, clsCall, Fr.ev, evs, put_mk, pureOp, readOp, rLd, someAgg_s, pBin, binA, intOp_lss, Nat.reduceLT, Nat.reduceEqDiff, loadA_w, loadW_a, callTo_s, heavyCall, target, List.nil_append, binA, stepOp, stHeavy, stV_mk, stO_mk, sz68, ag68, stepAny, wantedA_none, Tget_set, u7, u8, lt_t hjl, pIA_s Tryz.underlying35 sz68 hjl, r0, List.cons_append, kf, hd] <;> rfl)))
    subst hQ
    refine ret_back (by simp only [Tryz.results72, resultOf, resultsA, resultA, List.toList_toArray, Fr.ev, Tget_set, ↓reduceIte] <;> rfl) ?_
    exact ⟨_, by rw [wIdx_some hp hs fun i q hi hq => hI i q hi hq], Same.base _ _ _⟩
  · have hd := dec_f (p := k = m) hs
    repeat' (first | refine st ?_ | ((with_reducible (first | apply r_any | apply r_cond)); focus (simp only [↓reduceIte, clsOf, clsCall, Fr.ev, evs, ofV, ofA, ofS, put_mk, pureOp, readOp, rLd, someAgg_s, pBin, binA, intOp_lss, Nat.reduceLT, Nat.reduceEqDiff, loadA_w, loadW_a, callTo_s, heavyCall, target, List.nil_append, binA, stepOp, stHeavy, stV_mk, stO_mk, sz68, ag68, stepAny, wantedA_none, Tget_set, u7, u8, lt_t hjl, pIA_s Tryz.underlying35 sz68 hjl, r0, List.cons_append, kf, hd, ad] <;> rfl)))
    exact r_rq_n (k := U.length - (j + 1)) (by omega) ⟨_, _, j + 1, rfl, rfl, by omega, rfl, by omega, fun i q hi hq => by
      by_cases hij : i < j
      · exact hI i q hij hq
      · rw [show i = j by omega, hp] at hq
        cases hq
        exact hs, (by first | (simp only [Tget_set, Nat.reduceEqDiff, ↓reduceIte, u0, el] <;> rfl) | rfl), sd8, sd8, sd8⟩
theorem k_wx {h : Heap} {F b : Nat} {w : AV} {m : Tx} {U : List (List AV)} (hk : b < ky F 0) (hb : rdAB (hget h b) 0 1 = some [.str m]) (hl : LstP h ksW w U) : CallF.fn (KR S) 72 [w, .fn (.func 50) [] [.ptr b 0]] ⟨h, F⟩ = some [.val (.int .i64 (wIdx m U)) ⟨h, F⟩] :=
  kr_fn ((rfl : _ = cWx [w, .fn (.func 50) [] [.ptr b 0]] ⟨h, F⟩).trans (by simp only [cWx, lstOf_eq hl, hb])) (wxA h F b w m U hk hb hl)
end

end Go.Proofs.YtmnhaoadhkdinaaGreatDoor

namespace Go.Proofs.YtmnhaoadhkdinaaGreatDoor
open Go Go.Ai
set_option maxRecDepth 100000

theorem wIdx_ge (m : Tx) (U : List (List AV)) : decide (0 ≤ wIdx m U) = dec (m ∈ U.map keyI) := by
  by_cases hm : m ∈ U.map keyI
  · rw [dec_t hm]
    obtain ⟨c, hc, he⟩ := List.mem_map.1 hm
    cases hf : U.findIdx? (fun c => open Classical in decide (keyI c = m)) with
    | none =>
      rw [List.findIdx?_eq_none_iff] at hf
      have := hf c hc
      simp [he] at this
    | some i =>
      unfold wIdx
      rw [hf]
      exact decide_eq_true (Int.natCast_nonneg i)
  · rw [dec_f hm]
    have : wIdx m U = -1 := wIdx_none fun j d hj he => hm (List.mem_map.2 ⟨d, List.mem_of_getElem? hj, he⟩)
    rw [this]
    rfl
theorem it_at {h : Heap} {F : Nat} {w : AV} {U : List (List AV)} (hw : Wf ⟨h, F⟩) (hl : LstP h ksIt w U) {j : Nat} (hj : j < U.length) : ∃ b o eo cap k v0 v1 t, w = .slice b o eo U.length cap ∧ b < ky F 0 ∧ U[j]? = some [.str k, .int .i64 v0, .int .i64 v1, .str t] ∧ rdAB (hget h b) (o + j * 4) 4 = some [.str k, .int .i64 v0, .int .i64 v1, .str t] := by
  obtain ⟨b, o, eo, cap, e, h0, _⟩ := hl.at hj
  obtain ⟨a0, r0, e0, c0, a1, r1, e1, c1, a2, r2, e2, c2, a3, r3, e3, c3, e4⟩ := hl.ok hj
  subst e4 e3 e2 e1
  have ii : ∀ {a : AV}, ckOk (.i .i64) a → ∃ n, a = .int .i64 n := fun {a} hc => by
    cases a <;> simp only [ckOk] at hc
    exact ⟨_, by rw [hc.1]⟩
  have ss : ∀ {a : AV}, ckOk .s a → ∃ n, a = .str n := fun {a} hc => by
    cases a <;> simp only [ckOk] at hc
    exact ⟨_, rfl⟩
  obtain ⟨k, rfl⟩ := ss c0
  obtain ⟨v0, rfl⟩ := ii c1
  obtain ⟨v1, rfl⟩ := ii c2
  obtain ⟨t, rfl⟩ := ss c3
  rw [e0] at h0
  exact ⟨b, o, eo, cap, k, v0, v1, t, e, rd_low hw h0, by rw [List.getElem?_eq_getElem hj, e0], h0⟩
section
variable {S : FuncId → List AV → St → Out → Prop}
set_option maxHeartbeats 2000000 in
theorem wcA (h : Heap) (F b : Nat) (w : AV) (m : Tx) (U : List (List AV)) (hk : b < ky F 0) (hb : rdAB (hget h b) 0 1 = some [.str m]) (hl : LstP h ksW w U) : Snd Tryz.prog [] 49 [w, .fn (.func 50) [] [.ptr b 0]] ⟨h, F⟩ [.val (.bool (dec (m ∈ U.map keyI))) ⟨h, F⟩] := by
  refine snd_val (by simp [Kin]) fun hw => ?_
  have kx := k_wx (S := C0) (F := F + 1) (Nat.lt_of_lt_of_le hk (ky_mono (Nat.le_succ F))) hb hl
  have hg := wIdx_ge m U
  refine sndQ_body (K := (KR C0)) kr_ok mixed noNum (m := 0) Tryz.func49 ?_
  generalize hQ : retQ _ _ _ _ _ _ = Q0
  refine body_go (c := Tryz.f49.body.getD .skip) (n := 9) rfl rfl (by simp only [↓reduceIte, T.setList, T.set_e, T.set_n, Nat.reduceDiv, Nat.reduceMod, Nat.reduceEqDiff, Nat.zero_add] <;> rfl) ?_
  simp only [Tryz.f49, Option.getD_some]
  repeat' (first | refine st ?_ | ((with_reducible (first | apply r_any | apply r_cond)); focus (simp only [↓reduceIte, clsOf, clsCall, Fr.ev, evs, ofV, ofA, ofS, put_mk, pureOp, pBin, binA, intOp_geq, Nat.reduceLT, Nat.reduceEqDiff, Nat.reduceSub, callTo_s, heavyCall, target, List.nil_append, List.append_nil, binA, stepOp, stHeavy, stV_mk, stO_mk, T.get_n, T.set_n, T.set_e, Nat.reduceDiv, Nat.reduceMod, stepAny, wantedA_none, kx, hg] <;> rfl)))
  subst hQ
  refine ret_back (by simp only [Tryz.results49, resultOf, resultsA, resultA, List.toList_toArray, Fr.ev, Tget_set, ↓reduceIte] <;> rfl) ?_
  exact ⟨_, rfl, Same.base _ _ _⟩
theorem k_wc {h : Heap} {F b : Nat} {w : AV} {m : Tx} {U : List (List AV)} (hk : b < ky F 0) (hb : rdAB (hget h b) 0 1 = some [.str m]) (hl : LstP h ksW w U) : CallF.fn (KR S) 49 [w, .fn (.func 50) [] [.ptr b 0]] ⟨h, F⟩ = some [.val (.bool (dec (m ∈ U.map keyI))) ⟨h, F⟩] :=
  kr_fn ((rfl : _ = cWc [w, .fn (.func 50) [] [.ptr b 0]] ⟨h, F⟩).trans (by simp only [cWc, lstOf_eq hl, hb])) (wcA h F b w m U hk hb hl)
end

end Go.Proofs.YtmnhaoadhkdinaaGreatDoor

namespace Go.Proofs.YtmnhaoadhkdinaaGreatDoor
open Go Go.Ai
set_option maxRecDepth 100000

section
variable {S : FuncId → List AV → St → Out → Prop}
set_option maxHeartbeats 4000000 in
theorem touA (h : Heap) (F : Nat) (c t how : Int) (n : Tx) (a r wr i w : AV) (I U : List (List AV)) (ia : isCell a = true) (ir : isCell r = true) (iw : isCell wr = true) (hI : LstP h ksIt i I) (hU : LstP h ksW w U) : Snd Tryz.prog [] 27 [.agg [.int .i64 c, .int .u64 t, .str n, a, .int .i64 how, r, wr, i], w] ⟨h, F⟩ [.val (.bool (dec (∃ c ∈ I, keyI c ∈ U.map keyI))) ⟨h, F⟩] := by
  refine snd_val (by simp [Kin]) fun hw => ?_
  have mxl : maxLen = 9223372036854775807 := by decide
  have lI := fun (h2 : Heap) => rLen1_L (h2 := h2) Tryz.underlying32 hI
  have hlI := hI.len
  refine sndQ_body (K := (KR C0)) kr_ok mixed noNum (m := I.length + 1) Tryz.func27 ?_
  generalize hQ : retQ _ _ _ _ _ _ = Q0
  refine body_go (c := Tryz.f27.body.getD .skip) (n := 18) rfl rfl (by simp only [↓reduceIte, T.setList, T.set_e, T.set_n, Nat.reduceDiv, Nat.reduceMod, Nat.reduceEqDiff, Nat.zero_add] <;> rfl) ?_
  simp only [Tryz.f27, Option.getD_some]
  repeat' (first | refine st ?_ | ((with_reducible (first | apply r_any | apply r_cond)); focus (simp only [↓reduceIte, clsOf, clsCall, newBlk, allocOp, Fr.ev, ofV, ofA, ofS, nVar, AV.cells, rowOf_mk, put_mk, upd_mk, keyOf_mk, pureOp, readOp, pFA, pFA1, pFA2, rLd, rdAB_row, oneCell_one, hget_same, List.length_cons, List.length_nil, List.getElem?_cons_zero, List.getElem?_cons_succ, List.drop_zero, List.drop_succ_cons, List.take_succ_cons, List.take_zero, Nat.zero_add, Nat.add_zero, Nat.reduceAdd, Nat.reduceLT, Nat.reduceLeDiff, Nat.reduceEqDiff, Nat.reduceSub, Nat.add_eq, loadA_w, loadW_s, stepOp, stV_mk, stB_mk, T.get_n, T.set_n, T.set_e, Nat.reduceDiv, Nat.reduceMod, sz32, ag32, Tryz.underlying34, stepAny, wantedA_none, rCall, rLen, lI] <;> rfl)))
  refine r_loop (I := fun nn fr s1 => ∃ lc tt h1 j, fr = ⟨F, lc, 18, tt, [], .no⟩ ∧ s1 = ⟨h1, F + 1⟩ ∧ j ≤ I.length ∧ nn = I.length - j ∧ lc + nn * 1000 ≤ 100000000000000000000000000 ∧ Low F h h1 ∧ (∀ (x : Nat) (d : List AV), x < j → I[x]? = some d → ¬ keyI d ∈ U.map keyI) ∧ tt.get 1 = some w ∧ tt.get 8 = some i ∧ tt.get 9 = some (.int .i64 (I.length : Int)) ∧ tt.get 10 = some (.int .i64 (j : Int))) (n := I.length) ?_ ?_ ?_
  · omega
  · exact ⟨_, _, _, 0, rfl, rfl, Nat.zero_le _, (Nat.sub_zero _).symm, by omega, (Low.refl F h).set (Nat.le_refl F), fun x d hx => absurd hx (Nat.not_lt_zero _), sd8, sd8, sd8, sd8⟩
  rintro nn fr s1 ⟨lc, tt, h1, j, rfl, rfl, hj, rfl, hlc, hlow, hN, u1, u8, u9, u10⟩
  have hS := hlow.same hw
  by_cases hjl : j < I.length
  rotate_left
  · repeat' (first | refine st ?_ | ((with_reducible (first | apply r_any | apply r_cond)); focus (simp only [↓reduceIte, clsOf, Fr.ev, ofV, ofA, ofS, put_mk, pureOp, pBin, binA, intOp_lss, Nat.reduceLT, binA, stepOp, stV_mk, stepAny, wantedA_none, u9, u10, lt_f hjl] <;> rfl)))
    subst hQ
    refine ret_back (by simp only [Tryz.results27, resultOf, resultsA, resultA, List.toList_toArray, Fr.ev, Tget_set, ↓reduceIte] <;> rfl) ?_
    exact ⟨_, out_eq (by rw [dec_f (p := ∃ c ∈ I, keyI c ∈ U.map keyI) fun ⟨c, hc, hk⟩ => by obtain ⟨x, hx⟩ := List.getElem?_of_mem hc; exact hN x c (by have := (List.getElem?_eq_some_iff.1 hx).1; omega) hx hk]), hS⟩
  obtain ⟨bb, o, eo, cap, k, v0, v1, tx, el, hbb, hp, q0⟩ := it_at hw hI hjl
  have r0 := hS.rd q0
  rw [el] at u8
  have low2 : Low F h (hset (hset h1 (ky F (lc + 1 + 2)) (mkRow [.str [], .int .i64 0, .int .i64 0, .str []] 0)) (ky F (lc + 1 + 2)) (mkRow [.str k, .int .i64 v0, .int .i64 v1, .str tx] 0)) := (hlow.set (Nat.le_refl F)).set (Nat.le_refl F)
  have S2 : SameH h (hset (hset h1 (ky F (lc + 1 + 2)) (mkRow [.str [], .int .i64 0, .int .i64 0, .str []] 0)) (ky F (lc + 1 + 2)) (mkRow [.str k, .int .i64 v0, .int .i64 v1, .str tx] 0)) := low2.same hw
  have kf := k_wc (S := C0) (F := F + 1) (h := (hset (hset h1 (ky F (lc + 1 + 2)) (mkRow [.str [], .int .i64 0, .int .i64 0, .str []] 0)) (ky F (lc + 1 + 2)) (mkRow [.str k, .int .i64 v0, .int .i64 v1, .str tx] 0))) (b := ky F (lc + 1 + 2)) (m := k) (ky_next F _ (by omega)) (by rw [hget_hset, if_pos rfl]; rfl) (hU.same S2)
  have ad := intOp_add (P := Tryz.prog) (t := 3) (inR_succ hjl hlI)
  by_cases hs : k ∈ U.map keyI
  · have hd := dec_t hs
    repeat' (first | refine st ?_ | ((with_reducible (first | apply r_any | apply r_cond)); focus (simp only [↓reduceIte, clsOf, clsCall, newBlk, allocOp, Fr.ev, evs, ofV, ofA, ofS, nVar, AV.cells, rowOf_mk, put_mk, put_none, upd_mk, keyOf_mk, pureOp, readOp, rLd, someAgg_s, hget_same, pBin, binA, intOp_lss, List.length_cons, List.length_nil, Nat.zero_add, Nat.reduceAdd, Nat.reduceLT, Nat.reduceLeDiff, Nat.reduceEqDiff, and_self, loadA_w, loadW_a, aSt_w, stOut_s, wrAB_row, ovr, List.set_cons_zero, List.set_cons_succ, allCell, ic_i, ic_s, callTo_s, heavyCall, target, actOp, List.nil_append, List.append_nil, pMkF, binA, stepOp, stHeavy, stV_mk, stB_mk, stO_mk, sz66, ag66, zr66, tg66, stepAny, wantedA_none, Tget_set, u8, u9, u10, lt_t hjl, pIA_s Tryz.underlying32 sz66 hjl, r0, kf, hd] <;> rfl)))
    subst hQ
    refine ret_back (by simp only [Tryz.results27, resultOf, resultsA, resultA, List.toList_toArray, Fr.ev, Tget_set, ↓reduceIte] <;> rfl) ?_
    exact ⟨_, out_eq (by rw [dec_t (p := ∃ c ∈ I, keyI c ∈ U.map keyI) ⟨_, List.mem_of_getElem? hp, hs⟩]), S2⟩
  · have hd := dec_f hs
    repeat' (first | refine st ?_ | ((with_reducible (first | apply r_any | apply r_cond)); focus (simp only [↓reduceIte, clsOf, clsCall, newBlk, allocOp, Fr.ev, evs, ofV, ofA, ofS, nVar, AV.cells, rowOf_mk, put_mk, put_none, upd_mk, keyOf_mk, pureOp, readOp, rLd, someAgg_s, hget_same, pBin, binA, intOp_lss, List.length_cons, List.length_nil, Nat.zero_add, Nat.reduceAdd, Nat.reduceLT, Nat.reduceLeDiff, Nat.reduceEqDiff, and_self, loadA_w, loadW_a, aSt_w, stOut_s, wrAB_row, ovr, List.set_cons_zero, List.set_cons_succ, allCell, ic_i, ic_s, callTo_s, heavyCall, target, actOp, List.nil_append, List.append_nil, pMkF, binA, stepOp, stHeavy, stV_mk, stB_mk, stO_mk, sz66, ag66, zr66, tg66, stepAny, wantedA_none, Tget_set, u8, u9, u10, lt_t hjl, pIA_s Tryz.underlying32 sz66 hjl, r0, kf, hd, ad] <;> rfl)))
    exact r_rq_n (k := I.length - (j + 1)) (by omega) ⟨_, _, _, j + 1, rfl, rfl, by omega, rfl, by omega, low2, fun x d hx hd' => by
      by_cases hxj : x < j
      · exact hN x d hxj hd'
      · rw [show x = j by omega, hp] at hd'
        cases hd'
        exact hs, sd8, (by first | (simp only [Tget_set, Nat.reduceEqDiff, ↓reduceIte, u8, el] <;> rfl) | rfl), sd8, sd8⟩
theorem k_tou {h h1 : Heap} {F : Nat} {c t how : Int} {n : Tx} {a r wr i w : AV} {I U : List (List AV)} (ia : isCell a = true) (ir : isCell r = true) (iw : isCell wr = true) (hI : LstP h ksIt i I) (hU : LstP h ksW w U) (hs : SameH h h1) : CallF.fn (KR S) 27 [.agg [.int .i64 c, .int .u64 t, .str n, a, .int .i64 how, r, wr, i], w] ⟨h1, F⟩ = some [.val (.bool (dec (∃ c ∈ I, keyI c ∈ U.map keyI))) ⟨h1, F⟩] :=
  kr_fn ((rfl : _ = cTo [.agg [.int .i64 c, .int .u64 t, .str n, a, .int .i64 how, r, wr, i], w] ⟨h1, F⟩).trans (by simp only [cTo, lstOf_same hI hs, lstOf_same hU hs])) (touA h1 F c t how n a r wr i w I U ia ir iw (hI.same hs) (hU.same hs))
end

end Go.Proofs.YtmnhaoadhkdinaaGreatDoor

namespace Go.Proofs.YtmnhaoadhkdinaaGreatDoor
open Go Go.Ai
set_option maxRecDepth 100000

theorem fndT_some {ks : List Tx} {L : List PV} {i : Nat} {p : PV} (hi : L[i]? = some p) (hc : tch ks p) (hn : ∀ (j : Nat) (q : PV), j < i → L[j]? = some q → ¬ tch ks q) : fndT ks L = some i := by
  obtain ⟨hl, he⟩ := List.getElem?_eq_some_iff.1 hi
  unfold fndT
  rw [List.findIdx?_eq_some_iff_getElem]
  refine ⟨hl, by simp [he, hc], fun j hj => ?_⟩
  simpa using hn j _ hj (List.getElem?_eq_getElem (by omega))
theorem fndT_none {ks : List Tx} {L : List PV} (hn : ∀ (j : Nat) (q : PV), L[j]? = some q → ¬ tch ks q) : fndT ks L = none := by
  unfold fndT
  rw [List.findIdx?_eq_none_iff]
  intro d hd
  obtain ⟨j, hj⟩ := List.getElem?_of_mem hd
  simpa using hn j d hj
theorem fndT_none' {ks : List Tx} {L : List PV} (h : fndT ks L = none) (j : Nat) (q : PV) (hq : L[j]? = some q) : ¬ tch ks q := by
  unfold fndT at h
  rw [List.findIdx?_eq_none_iff] at h
  simpa using h q (List.mem_of_getElem? hq)
theorem fndT_some' {ks : List Tx} {L : List PV} {i : Nat} (h : fndT ks L = some i) : ∃ p, L[i]? = some p ∧ tch ks p ∧ ∀ (j : Nat) (q : PV), j < i → L[j]? = some q → ¬ tch ks q := by
  unfold fndT at h
  rw [List.findIdx?_eq_some_iff_getElem] at h
  obtain ⟨hl, h1, h2⟩ := h
  refine ⟨L[i], List.getElem?_eq_getElem hl, by simpa using h1, fun j q hj hq => ?_⟩
  have := h2 j hj
  obtain ⟨hjl, he⟩ := List.getElem?_eq_some_iff.1 hq
  rw [he] at this
  simpa using this
section
variable {S : FuncId → List AV → St → Out → Prop}
set_option maxHeartbeats 4000000 in
theorem tch1A (h : Heap) (F b : Nat) (c t how : Int) (n : Tx) (a r w i x : AV) (I U : List (List AV)) (hk : b < ky F 0) (hb : rdAB (hget h b) 0 1 = some [x]) (hI : LstP h ksIt i I) (hU : LstP h ksW x U) (ia : isCell a = true) (ir : isCell r = true) (iw : isCell w = true) : Snd Tryz.prog [] 38 [.agg [.int .i64 c, .int .u64 t, .str n, a, .int .i64 how, r, w, i], .ptr b 0] ⟨h, F⟩ [.val (.bool (dec (∃ c ∈ I, keyI c ∈ U.map keyI))) ⟨h, F⟩] := by
  refine snd_val (by simp [Kin]) fun hw => ?_
  have kt := fun (hh : Heap) (hs : SameH h hh) => k_tou (S := C0) (F := F + 1) (c := c) (t := t) (how := how) (n := n) ia ir iw hI hU hs
  refine sndQ_body (K := (KR C0)) kr_ok mixed noNum (m := 0) Tryz.func38 ?_
  generalize hQ : retQ _ _ _ _ _ _ = Q0
  refine body_go (c := Tryz.f38.body.getD .skip) (n := 7) rfl rfl (by simp only [↓reduceIte, T.setList, T.set_e, T.set_n, Nat.reduceDiv, Nat.reduceMod, Nat.reduceEqDiff, Nat.zero_add] <;> rfl) ?_
  simp only [Tryz.f38, Option.getD_some]
  repeat' (first | refine st ?_ | ((with_reducible (first | apply r_any | apply r_cond)); focus (simp only [↓reduceIte, clsOf, clsCall, newBlk, allocOp, Fr.ev, evs, ofV, ofA, ofS, nVar, AV.cells, rowOf_mk, put_mk, upd_mk, keyOf_mk, pureOp, readOp, rLd, rdAB_row, oneCell_one, someAgg_s, hget_same, hget_hset_ite, List.length_cons, List.length_nil, List.drop_zero, List.take_succ_cons, List.take_zero, Nat.zero_add, Nat.add_zero, Nat.reduceAdd, Nat.reduceLT, Nat.reduceLeDiff, Nat.reduceEqDiff, Nat.reduceSub, loadA_w, loadW_a, loadW_s, callTo_s, heavyCall, target, List.nil_append, List.append_nil, stepOp, stHeavy, stV_mk, stB_mk, stO_mk, T.get_n, T.set_n, T.set_e, Nat.reduceDiv, Nat.reduceMod, sz34, ag34, sz35, ag35, stepAny, wantedA_none, hb, ky_old hk, kt, sameS hw, sameT] <;> rfl)))
  subst hQ
  refine ret_back (by simp only [Tryz.results38, resultOf, resultsA, resultA, List.toList_toArray, Fr.ev, Tget_set, ↓reduceIte] <;> rfl) ?_
  exact ⟨_, rfl, by repeat (first | exact Same.base _ _ _ | refine Same.hset hw ?_ (ky_le _ _))⟩
theorem wrO_eq {h : Heap} {b : Nat} {x : AV} {U : List (List AV)} (hb : rdAB (hget h b) 0 1 = some [x]) (hU : LstP h ksW x U) : wrO h b = some U := by
  unfold wrO
  simp only [hb, lstOf_eq hU]
theorem k_tch1 {h h1 : Heap} {F b : Nat} {c t how : Int} {n : Tx} {a r w i x : AV} {I U : List (List AV)} (hk : b < ky F 0) (hb : rdAB (hget h b) 0 1 = some [x]) (hI : LstP h ksIt i I) (hU : LstP h ksW x U) (ia : isCell a = true) (ir : isCell r = true) (iw : isCell w = true) (hs : SameH h h1) : CallF.fn (KR S) 38 [.agg [.int .i64 c, .int .u64 t, .str n, a, .int .i64 how, r, w, i], .ptr b 0] ⟨h1, F⟩ = some [.val (.bool (dec (∃ c ∈ I, keyI c ∈ U.map keyI))) ⟨h1, F⟩] :=
  kr_fn ((rfl : _ = cTou1 [.agg [.int .i64 c, .int .u64 t, .str n, a, .int .i64 how, r, w, i], .ptr b 0] ⟨h1, F⟩).trans (by simp only [cTou1, lstOf_same hI hs, wrO_eq (hs.rd hb) (hU.same hs)])) (tch1A h1 F b c t how n a r w i x I U hk (hs.rd hb) (hI.same hs) (hU.same hs) ia ir iw)
set_option maxHeartbeats 4000000 in
theorem idxT (h : Heap) (F b : Nat) (l x : AV) (U : List (List AV)) (Q : Nat → Nat → Prop) (G : Nat) (X : List (List AV)) (L : List PV) (hk : b < ky F 0) (hb : rdAB (hget h b) 0 1 = some [x]) (hU : LstP h ksW x U) (hl : LstP h ksP l X) (kp : Kept Q G h X L) : Snd Tryz.prog [] 51 [l, .fn (.func 38) [] [.ptr b 0]] ⟨h, F⟩ [.val (.int .i64 (idxP (fndT (U.map keyI) L))) ⟨h, F⟩] := by
  refine snd_val (by simp [Kin]) fun hw => ?_
  have mxl : maxLen = 9223372036854775807 := by decide
  have lA := fun (h2 : Heap) => rLen1_L (h2 := h2) Tryz.underlying58 hl
  rw [kp.1] at lA
  have hlL := hl.len
  rw [kp.1] at hlL
  refine sndQ_body (K := (KR C0)) kr_ok mixed noNum (m := L.length + 1) Tryz.func51 ?_
  generalize hQ : retQ _ _ _ _ _ _ = Q0
  refine body_go (c := Tryz.f51.body.getD .skip) (n := 19) rfl rfl (by simp only [↓reduceIte, T.setList, T.set_e, T.set_n, Nat.reduceDiv, Nat.reduceMod, Nat.reduceEqDiff, Nat.zero_add] <;> rfl) ?_
  simp only [Tryz.f51, Option.getD_some]
  repeat' (first | refine st ?_ | ((with_reducible (first | apply r_any | apply r_cond)); focus (simp only [↓reduceIte, clsOf, clsCall, Fr.ev, ofV, ofA, ofS, put_mk, pureOp, readOp, List.getElem?_cons_zero, Nat.reduceLT, Nat.reduceEqDiff, Nat.reduceSub, stepOp, stV_mk, T.get_n, T.set_n, T.set_e, Nat.reduceDiv, Nat.reduceMod, stepAny, wantedA_none, rCall, rLen, lA] <;> rfl)))
  refine r_loop (I := fun nn fr s1 => ∃ lc tt j, fr = ⟨F, lc, 19, tt, [], .no⟩ ∧ s1 = ⟨h, F + 1⟩ ∧ j ≤ L.length ∧ nn = L.length - j ∧ lc + nn * 1000 ≤ 100000000000000000000000000 ∧ (∀ (i : Nat) (q : PV), i < j → L[i]? = some q → ¬ tch (U.map keyI) q) ∧ tt.get 0 = some l ∧ tt.get 1 = some (.fn (.func 38) [] [.ptr b 0]) ∧ tt.get 7 = some (.int .i64 (L.length : Int)) ∧ tt.get 8 = some (.int .i64 (j : Int))) (n := L.length) ?_ ?_ ?_
  · omega
  · exact ⟨_, _, 0, rfl, rfl, Nat.zero_le _, (Nat.sub_zero _).symm, by omega, fun i q hi => absurd hi (Nat.not_lt_zero _), sd8, sd8, sd8, sd8⟩
  rintro nn fr s1 ⟨lc, tt, j, rfl, rfl, hj, rfl, hlc, hI, u0, u1, u7, u8⟩
  by_cases hjl : j < L.length
  rotate_left
  · repeat' (first | refine st ?_ | ((with_reducible (first | apply r_any | apply r_cond)); focus (simp only [↓reduceIte, clsOf, Fr.ev, ofV, ofA, ofS, put_mk, pureOp, pBin, binA, intOp_lss, Nat.reduceLT, binA, Int.reduceNeg, stepOp, stV_mk, stepAny, wantedA_none, u7, u8, lt_f hjl] <;> rfl)))
    subst hQ
    refine ret_back (by simp only [Tryz.results51, resultOf, resultsA, resultA, List.toList_toArray, Fr.ev, Tget_set, ↓reduceIte] <;> rfl) ?_
    exact ⟨_, by rw [fndT_none fun i q hq => hI i q (by have := (List.getElem?_eq_some_iff.1 hq).1; omega) hq]; rfl, Same.base _ _ _⟩
  obtain ⟨bb, o, eo, cap, a, r, w, i, p, el, hbb, hp, r0, hA, hR, hW, hT⟩ := pas_at hw hl kp hjl
  rw [el] at u0
  have ad := intOp_add (P := Tryz.prog) (t := 3) (inR_succ hjl hlL)
  have kf := k_tch1 (S := C0) (F := F + 1) (c := p.cl) (t := p.tok) (how := p.how) (n := p.nm) (Nat.lt_of_lt_of_le hk (ky_mono (Nat.le_succ F))) hb hT hU (isCell_L hA) (isCell_L hR) (isCell_L hW) (SameH.refl h)
  by_cases hs : tch (U.map keyI) p
  · have hd := dec_t (p := ∃ c ∈ p.it, keyI c ∈ U.map keyI) hs
    repeat' (first | refine st ?_ | ((with_reducible (first | apply r_any | apply r_cond)); focus (simp only [↓reduceIte, clsOf, clsCall, Fr.ev, evs, put_mk, pureOp, readOp, rLd, someAgg_s, pBin, binA, intOp_lss, Nat.reduceLT, Nat.reduceEqDiff, loadA_w, loadW_a, callTo_s, heavyCall, target, List.nil_append, binA, stepOp, stHeavy, stV_mk, stO_mk, sz34, ag34, stepAny, wantedA_none, Tget_set, u7, u8, lt_t hjl, pIA_s Tryz.underlying58 sz34 hjl, r0, List.cons_append, kf, hd] <;> rfl)))
    subst hQ
    refine ret_back (by simp only [Tryz.results51, resultOf, resultsA, resultA, List.toList_toArray, Fr.ev, Tget_set, ↓reduceIte] <;> rfl) ?_
    exact ⟨_, by rw [fndT_some hp hs fun i q hi hq => hI i q hi hq]; rfl, Same.base _ _ _⟩
  · have hd := dec_f (p := ∃ c ∈ p.it, keyI c ∈ U.map keyI) hs
    repeat' (first | refine st ?_ | ((with_reducible (first | apply r_any | apply r_cond)); focus (simp only [↓reduceIte, clsOf, clsCall, Fr.ev, evs, ofV, ofA, ofS, put_mk, pureOp, readOp, rLd, someAgg_s, pBin, binA, intOp_lss, Nat.reduceLT, Nat.reduceEqDiff, loadA_w, loadW_a, callTo_s, heavyCall, target, List.nil_append, binA, stepOp, stHeavy, stV_mk, stO_mk, sz34, ag34, stepAny, wantedA_none, Tget_set, u7, u8, lt_t hjl, pIA_s Tryz.underlying58 sz34 hjl, r0, List.cons_append, kf, hd, ad] <;> rfl)))
    exact r_rq_n (k := L.length - (j + 1)) (by omega) ⟨_, _, j + 1, rfl, rfl, by omega, rfl, by omega, fun i q hi hq => by
      by_cases hij : i < j
      · exact hI i q hij hq
      · rw [show i = j by omega, hp] at hq
        cases hq
        exact hs, (by first | (simp only [Tget_set, Nat.reduceEqDiff, ↓reduceIte, u0, el] <;> rfl) | rfl), sd8, sd8, sd8⟩
theorem k_idxT {h : Heap} {F b : Nat} {l x : AV} {U : List (List AV)} {Q : Nat → Nat → Prop} {G : Nat} {X : List (List AV)} {L : List PV} (hk : b < ky F 0) (hb : rdAB (hget h b) 0 1 = some [x]) (hU : LstP h ksW x U) (hl : LstP h ksP l X) (kp : Kept Q G h X L) : CallF.fn (KR S) 51 [l, .fn (.func 38) [] [.ptr b 0]] ⟨h, F⟩ = some [.val (.int .i64 (idxP (fndT (U.map keyI) L))) ⟨h, F⟩] :=
  kr_fn ((rfl : _ = cIdx [l, .fn (.func 38) [] [.ptr b 0]] ⟨h, F⟩).trans (by simp only [cIdx, wrO_eq hb hU, pasO_eq hl kp])) (idxT h F b l x U Q G X L hk hb hU hl kp)
end

end Go.Proofs.YtmnhaoadhkdinaaGreatDoor

namespace Go.Proofs.YtmnhaoadhkdinaaGreatDoor
open Go Go.Ai
set_option maxRecDepth 100000

theorem ca_1 {h : Heap} {k : Nat} {x y z u : AV} (hb : rdAB (hget h k) 0 4 = some [x, y, z, u]) : rdAB (hget h k) 1 1 = some [y] := rdAB_part hb (k := 1) (j := 1) (by decide)
section
variable {S : FuncId → List AV → St → Out → Prop}
set_option maxHeartbeats 4000000 in
theorem findA (h : Heap) (F k : Nat) (c t : Int) (n : Tx) (l a x y z : AV) (V : List (List AV)) (Q : Nat → Nat → Prop) (G : Nat) (X : List (List AV)) (L : List PV) (hk : k < ky F 0) (hb : rdAB (hget h k) 0 4 = some [x, l, y, z]) (hA : LstP h ksV a V) (hl : LstP h ksP l X) (kp : Kept Q G h X L) (hG : G ≤ F) : Snd Tryz.prog [] 29 [.ptr k 0, .agg [.int .i64 c, .int .u64 t, .str n, a]] ⟨h, F⟩ [.val (.int .i64 (idxP (fndP n V L))) ⟨h, F⟩] := by
  refine snd_val (by simp [Kin]) fun hw => ?_
  have hm := ca_1 hb
  have low : Low F h (hset h (ky F 0) (mkRow [.int .i64 c, .int .u64 t, .str n, a] 0)) := (Low.refl F h).set (Nat.le_refl F)
  have hs : SameH h (hset h (ky F 0) (mkRow [.int .i64 c, .int .u64 t, .str n, a] 0)) := low.same hw
  have ki := k_idx (S := C0) (F := F + 1) (k := ky F 0) (h := (hset h (ky F 0) (mkRow [.int .i64 c, .int .u64 t, .str n, a] 0))) (x := .int .i64 c) (y := .int .u64 t) (m := n) (b := a) (ky_next F 0 (by decide)) (by rw [hget_hset, if_pos rfl]; rfl) (hA.same hs) (hl.same hs) (kp.low (low.down hG))
  refine sndQ_body (K := (KR C0)) kr_ok mixed noNum (m := 0) Tryz.func29 ?_
  generalize hQ : retQ _ _ _ _ _ _ = Q0
  refine body_go (c := Tryz.f29.body.getD .skip) (n := 11) rfl rfl (by simp only [↓reduceIte, T.setList, T.set_e, T.set_n, Nat.reduceDiv, Nat.reduceMod, Nat.reduceEqDiff, Nat.zero_add] <;> rfl) ?_
  simp only [Tryz.f29, Option.getD_some]
  repeat' (first | refine st ?_ | ((with_reducible (first | apply r_any | apply r_cond)); focus (simp only [↓reduceIte, clsOf, clsCall, newBlk, allocOp, Fr.ev, evs, ofV, ofA, ofS, nVar, AV.cells, rowOf_mk, put_mk, upd_mk, keyOf_mk, pureOp, readOp, pFA, pFA1, pFA2, rLd, oneCell_one, hget_hset_ite, List.getElem?_cons_zero, List.getElem?_cons_succ, Nat.zero_add, Nat.add_zero, Nat.reduceLT, Nat.reduceEqDiff, Nat.reduceSub, Nat.add_eq, loadA_w, loadW_s, callTo_s, heavyCall, target, List.nil_append, List.append_nil, pNil, pMkF, stepOp, stHeavy, stV_mk, stB_mk, stO_mk, T.get_n, T.set_n, T.set_e, Nat.reduceDiv, Nat.reduceMod, sz58, ag58, Tryz.underlying89, stepAny, wantedA_none, hm, ky_old hk, ki] <;> rfl)))
  subst hQ
  refine ret_back (by simp only [Tryz.results29, resultOf, resultsA, resultA, List.toList_toArray, Fr.ev, Tget_set, ↓reduceIte] <;> rfl) ?_
  exact ⟨_, rfl, by repeat (first | exact Same.base _ _ _ | refine Same.hset hw ?_ (ky_le _ _))⟩
set_option maxHeartbeats 4000000 in
theorem atA (h : Heap) (F k : Nat) (c t : Int) (n : Tx) (l a x y z : AV) (V : List (List AV)) (Q : Nat → Nat → Prop) (G : Nat) (X : List (List AV)) (L : List PV) (hk : k < ky F 0) (hb : rdAB (hget h k) 0 4 = some [x, l, y, z]) (hA : LstP h ksV a V) (hl : LstP h ksP l X) (kp : Kept Q G h X L) : Snd Tryz.prog [] 32 [.ptr k 0, .agg [.int .i64 c, .int .u64 t, .str n, a]] ⟨h, F⟩ [.val (.int .i64 (idxP (fndP n V L))) ⟨h, F⟩] := by
  refine snd_val (by simp [Kin]) fun hw => ?_
  have mxl : maxLen = 9223372036854775807 := by decide
  have hm := ca_1 hb
  have lA := fun (h2 : Heap) => rLen1_L (h2 := h2) Tryz.underlying58 hl
  rw [kp.1] at lA
  have hlL := hl.len
  rw [kp.1] at hlL
  refine sndQ_body (K := (KR C0)) kr_ok mixed noNum (m := L.length + 1) Tryz.func32 ?_
  generalize hQ : retQ _ _ _ _ _ _ = Q0
  refine body_go (c := Tryz.f32.body.getD .skip) (n := 27) rfl rfl (by simp only [↓reduceIte, T.setList, T.set_e, T.set_n, Nat.reduceDiv, Nat.reduceMod, Nat.reduceEqDiff, Nat.zero_add] <;> rfl) ?_
  simp only [Tryz.f32, Option.getD_some]
  repeat' (first | refine st ?_ | ((with_reducible apply r_drawL); (focus kernel_rfl); (focus kernel_rfl); (focus (exact sd1))) | ((with_reducible (first | apply r_any | apply r_cond)); focus (simp only [↓reduceIte, clsOf, newBlk, allocOp, Fr.ev, ofV, ofA, ofS, nVar, AV.cells, rowOf_mk, put_mk, upd_mk, keyOf_mk, pureOp, Nat.add_zero, Nat.reduceLT, Nat.reduceEqDiff, Nat.reduceSub, stepOp, stV_mk, stB_mk, T.get_n, T.set_n, T.set_e, Nat.reduceDiv, Nat.reduceMod, stepAny, wantedA_none] <;> rfl)))
  refine r_loop (I := fun nn fr s1 => ∃ lc tt j, fr = ⟨F, lc, 27, tt, [], .no⟩ ∧ s1 = ⟨(hset h (ky F 0) (mkRow [.int .i64 c, .int .u64 t, .str n, a] 0)), F + 1⟩ ∧ j ≤ L.length ∧ nn = L.length - j ∧ lc + nn * 1000 ≤ 100000000000000000000000000 ∧ (∀ (i : Nat) (q : PV), i < j → L[i]? = some q → ¬ sameK n V q) ∧ tt.get 0 = some (.ptr k 0) ∧ tt.get 3 = some (.ptr (ky F 0) 0) ∧ tt.get 5 = some (.int .i64 (j : Int))) (n := L.length) ?_ ?_ ?_
  · omega
  · exact ⟨_, _, 0, rfl, rfl, Nat.zero_le _, (Nat.sub_zero _).symm, by omega, fun i q hi => absurd hi (Nat.not_lt_zero _), sd8, sd8, sd8⟩
  rintro nn fr s1 ⟨lc, tt, j, rfl, rfl, hj, rfl, hlc, hI, u0, u3, u5⟩
  by_cases hjl : j < L.length
  rotate_left
  · repeat' (first | refine st ?_ | ((with_reducible apply r_drawL); (focus kernel_rfl); (focus kernel_rfl); (focus (exact sd1))) | ((with_reducible (first | apply r_any | apply r_cond)); focus (simp only [↓reduceIte, clsOf, clsCall, Fr.ev, ofV, ofA, ofS, put_mk, pureOp, readOp, pFA, pFA1, pFA2, rLd, oneCell_one, hget_hset_ite, pBin, binA, intOp_lss, List.getElem?_cons_zero, List.getElem?_cons_succ, Nat.zero_add, Nat.reduceLT, Nat.reduceEqDiff, Nat.add_eq, loadA_w, loadW_s, pNil, binA, Int.reduceNeg, stepOp, stV_mk, sz58, ag58, Tryz.underlying60, stepAny, wantedA_none, rCall, rLen, Tget_set, hm, ky_old hk, lA, lt_f hjl] <;> rfl)))
    subst hQ
    refine ret_back (by simp only [Tryz.results32, resultOf, resultsA, resultA, List.toList_toArray, Fr.ev, Tget_set, ↓reduceIte] <;> rfl) ?_
    exact ⟨_, out_eq (by rw [fnd_none fun i q hq => hI i q (by have := (List.getElem?_eq_some_iff.1 hq).1; omega) hq]; rfl), by repeat (first | exact Same.base _ _ _ | refine Same.hset hw ?_ (ky_le _ _))⟩
  obtain ⟨bb, o, eo, cap, a', r, w, i, p, rfl, hbb, hp, r8, hA', hR, hW, hT⟩ := pas_at hw hl kp hjl
  have r0 : rdAB (hget h bb) (o + j * 8) 4 = some [.int .i64 p.cl, .int .u64 p.tok, .str p.nm, a'] := rdAB_part r8 (k := 0) (j := 4) (by decide)
  have ad := intOp_add (P := Tryz.prog) (t := 3) (inR_succ hjl hlL)
  have kf := fun (hh : Heap) (hs : SameH h hh) => k_kind (S := C0) (F := F + 1) (c1 := p.cl) (t1 := p.tok) (n1 := p.nm) (c2 := c) (t2 := t) (n2 := n) hA' hA hs
  by_cases hs : sameK n V p
  · have hd := dec_t (p := p.nm = n ∧ p.args = V) hs
    repeat' (first | refine st ?_ | ((with_reducible apply (r_drawW (id := 4) (js := [0, 1, 2, 3, 4, 5, 6, 7, 8, 9, 10]))); (focus kernel_rfl); (focus kernel_rfl); (focus (exact sd1))) | ((with_reducible apply d_end); (focus (simp only [List.length_cons, List.length_nil, Nat.add_assoc, Nat.reduceAdd, Nat.zero_add] <;> rfl))) | ((with_reducible apply d_any); (focus rfl); (iterate 2 (focus (simp only [↓reduceIte, clsOf, clsCall, Fr.ev, evs, put_mk, pureOp, readOp, pFA, pFA1, pFA2, rLd, rdAB_row, oneCell_one, someAgg_s, hget_same, hget_hset_ite, List.length_cons, List.length_nil, List.getElem?_cons_zero, List.getElem?_cons_succ, List.drop_zero, List.take_succ_cons, List.take_zero, Nat.zero_add, Nat.add_zero, Nat.reduceAdd, Nat.reduceLT, Nat.reduceLeDiff, Nat.reduceEqDiff, Nat.add_eq, loadA_w, loadW_a, loadW_s, callTo_s, heavyCall, target, List.nil_append, List.append_nil, pNil, Bool.and_true, stepOp, stHeavy, stV_mk, stO_mk, sz26, ag26, sz31, Tryz.underlying31, Tryz.underlying34, sz58, ag58, Tryz.underlying60, stepAny, wantedA_none, readSelf, av_str, av_int, av_sl, av_agg, avs_nil, avs_cons, Tget_set, u0, u3, u5, hm, ky_old hk, pIA_s Tryz.underlying58 sz34 hjl, r0, ky_old hbb, kf, hd, sameS hw, sameT, av_self_L hA', av_self_L hA] <;> rfl))); (focus (first | exact SameH.refl _ | (simp only [sameT, sameS hw]; done)))) | ((with_reducible apply r_drawL); (focus kernel_rfl); (focus kernel_rfl); (focus (exact sd1))) | ((with_reducible (first | apply r_any | apply r_cond)); focus (simp only [↓reduceIte, clsOf, clsCall, Fr.ev, put_mk, pureOp, readOp, pFA, pFA1, pFA2, rLd, oneCell_one, hget_hset_ite, pBin, binA, intOp_lss, List.getElem?_cons_zero, List.getElem?_cons_succ, Nat.zero_add, Nat.reduceLT, Nat.reduceEqDiff, Nat.add_eq, loadA_w, loadW_s, pNil, binA, stepOp, stV_mk, sz58, ag58, Tryz.underlying60, stepAny, wantedA_none, rCall, rLen, Tget_set, lA, lt_t hjl, hm, ky_old hk] <;> rfl)))
    subst hQ
    refine ret_back (by simp only [Tryz.results32, resultOf, resultsA, resultA, List.toList_toArray, Fr.ev, Tget_set, ↓reduceIte] <;> rfl) ?_
    exact ⟨_, out_eq (by rw [fnd_some hp hs fun i q hi hq => hI i q hi hq]; rfl), by repeat (first | exact Same.base _ _ _ | refine Same.hset hw ?_ (ky_le _ _))⟩
  · have hd := dec_f (p := p.nm = n ∧ p.args = V) hs
    repeat' (first | refine st ?_ | ((with_reducible apply (r_drawW (id := 4) (js := [0, 1, 2, 3, 4, 5, 6, 7, 8, 9, 10]))); (focus kernel_rfl); (focus kernel_rfl); (focus (exact sd1))) | ((with_reducible apply d_end); (focus (simp only [List.length_cons, List.length_nil, Nat.add_assoc, Nat.reduceAdd, Nat.zero_add] <;> rfl))) | ((with_reducible apply d_any); (focus rfl); (iterate 2 (focus (simp only [↓reduceIte, clsOf, clsCall, Fr.ev, evs, put_mk, pureOp, readOp, pFA, pFA1, pFA2, rLd, rdAB_row, oneCell_one, someAgg_s, hget_same, hget_hset_ite, List.length_cons, List.length_nil, List.getElem?_cons_zero, List.getElem?_cons_succ, List.drop_zero, List.take_succ_cons, List.take_zero, Nat.zero_add, Nat.add_zero, Nat.reduceAdd, Nat.reduceLT, Nat.reduceLeDiff, Nat.reduceEqDiff, Nat.add_eq, loadA_w, loadW_a, loadW_s, callTo_s, heavyCall, target, List.nil_append, List.append_nil, pNil, Bool.and_true, stepOp, stHeavy, stV_mk, stO_mk, sz26, ag26, sz31, Tryz.underlying31, Tryz.underlying34, sz58, ag58, Tryz.underlying60, stepAny, wantedA_none, readSelf, av_str, av_int, av_sl, av_agg, avs_nil, avs_cons, Tget_set, u0, u3, u5, hm, ky_old hk, pIA_s Tryz.underlying58 sz34 hjl, r0, ky_old hbb, kf, hd, sameS hw, sameT, av_self_L hA', av_self_L hA] <;> rfl))); (focus (first | exact SameH.refl _ | (simp only [sameT, sameS hw]; done)))) | ((with_reducible apply r_drawL); (focus kernel_rfl); (focus kernel_rfl); (focus (exact sd1))) | ((with_reducible (first | apply r_any | apply r_cond)); focus (simp only [↓reduceIte, clsOf, clsCall, Fr.ev, ofV, ofA, ofS, put_mk, pureOp, readOp, pFA, pFA1, pFA2, rLd, oneCell_one, hget_hset_ite, pBin, binA, intOp_lss, List.getElem?_cons_zero, List.getElem?_cons_succ, Nat.zero_add, Nat.reduceLT, Nat.reduceEqDiff, Nat.add_eq, loadA_w, loadW_s, pNil, binA, stepOp, stV_mk, sz58, ag58, Tryz.underlying60, stepAny, wantedA_none, rCall, rLen, Tget_set, lA, lt_t hjl, hm, ky_old hk, ad] <;> rfl)))
    exact r_rq_n (k := L.length - (j + 1)) (by omega) ⟨_, _, j + 1, rfl, rfl, by omega, rfl, by omega, fun i q hi hq => by
      by_cases hij : i < j
      · exact hI i q hij hq
      · rw [show i = j by omega, hp] at hq
        cases hq
        exact hs, sd8, sd8, sd8⟩
theorem caO_eq {h : Heap} {k : Nat} {x l y z : AV} {Q : Nat → Nat → Prop} {G : Nat} {X : List (List AV)} {L : List PV} (hb : rdAB (hget h k) 0 4 = some [x, l, y, z]) (hl : LstP h ksP l X) (kp : Kept Q G h X L) : caO h k = some L := by
  unfold caO
  simp only [hb, pasO_eq hl kp]
theorem k_fi {h : Heap} {F k : Nat} {c t : Int} {n : Tx} {l a x y z : AV} {V : List (List AV)} {Q : Nat → Nat → Prop} {G : Nat} {X : List (List AV)} {L : List PV} (hk : k < ky F 0) (hb : rdAB (hget h k) 0 4 = some [x, l, y, z]) (hA : LstP h ksV a V) (hl : LstP h ksP l X) (kp : Kept Q G h X L) (hG : G ≤ F) : CallF.fn (KR S) 29 [.ptr k 0, .agg [.int .i64 c, .int .u64 t, .str n, a]] ⟨h, F⟩ = some [.val (.int .i64 (idxP (fndP n V L))) ⟨h, F⟩] :=
  kr_fn ((rfl : _ = cAt [.ptr k 0, .agg [.int .i64 c, .int .u64 t, .str n, a]] ⟨h, F⟩).trans (by simp only [cAt, caO_eq hb hl kp, lstOf_eq hA])) (findA h F k c t n l a x y z V Q G X L hk hb hA hl kp hG)
theorem k_at {h : Heap} {F k : Nat} {c t : Int} {n : Tx} {l a x y z : AV} {V : List (List AV)} {Q : Nat → Nat → Prop} {G : Nat} {X : List (List AV)} {L : List PV} (hk : k < ky F 0) (hb : rdAB (hget h k) 0 4 = some [x, l, y, z]) (hA : LstP h ksV a V) (hl : LstP h ksP l X) (kp : Kept Q G h X L) : CallF.fn (KR S) 32 [.ptr k 0, .agg [.int .i64 c, .int .u64 t, .str n, a]] ⟨h, F⟩ = some [.val (.int .i64 (idxP (fndP n V L))) ⟨h, F⟩] :=
  kr_fn ((rfl : _ = cAt [.ptr k 0, .agg [.int .i64 c, .int .u64 t, .str n, a]] ⟨h, F⟩).trans (by simp only [cAt, caO_eq hb hl kp, lstOf_eq hA])) (atA h F k c t n l a x y z V Q G X L hk hb hA hl kp)
end

end Go.Proofs.YtmnhaoadhkdinaaGreatDoor

/-! A list that is nil or grown in a block of one's own. -/
namespace Go.Ai
open Go
variable {P : Program}
def GrL (h : Heap) (F lc es : Nat) (l : AV) (L : List (List AV)) : Prop := (l = .nils ∧ L = []) ∨ (0 < L.length ∧ ∃ c, c < lc ∧ OwnL h F c es l L)
section
variable {h h' : Heap} {F lc es : Nat} {l : AV} {L N : List (List AV)}
end
end Go.Ai

/-! A list that begins as a made empty slice, and grows. -/
namespace Go.Ai
open Go
variable {P : Program}
def EGr (h : Heap) (F lo lc es : Nat) (l : AV) (L : List (List AV)) : Prop :=
  (L = [] ∧ ∃ c, (lo ≤ c ∧ c < lc) ∧ l = .slice (ky F c) 0 0 0 (some 0) ∧ hget h (ky F c) = some (mkRow [] es)) ∨ (0 < L.length ∧ ∃ c, (lo ≤ c ∧ c < lc) ∧ OwnL h F c es l L)
section
variable {h h' : Heap} {F lo lc es : Nat} {l : AV} {L N : List (List AV)}
theorem EGr.dn {lo' : Nat} (g : EGr h F lo lc es l L) (hl : lo' ≤ lo) : EGr h F lo' lc es l L := g.imp (fun ⟨a, c, b, d⟩ => ⟨a, c, ⟨by have := b.1; omega, b.2⟩, d⟩) fun ⟨a, c, b, d⟩ => ⟨a, c, ⟨by have := b.1; omega, b.2⟩, d⟩
theorem EGr.move (g : EGr h F lo lc es l L) (he : ∀ c, lo ≤ c → c < lc → hget h' (ky F c) = hget h (ky F c)) : EGr h' F lo lc es l L :=
  g.imp (fun ⟨a, c, b, d, e⟩ => ⟨a, c, b, d, (he c b.1 b.2).trans e⟩) fun ⟨a, c, b, d⟩ => ⟨a, c, b, d.move (he c b.1 b.2)⟩
theorem EGr.cell (g : EGr h F lo lc es l L) : isCell l = true := by
  rcases g with ⟨_, c, _, rfl, _⟩ | ⟨_, c, _, pre, _, _, rfl | ⟨eo, rfl⟩⟩ <;> rfl
theorem EGr.cls (g : EGr h F lo lc es l L) : l.cells = [l] := by
  rcases g with ⟨_, c, _, rfl, _⟩ | ⟨_, c, _, pre, _, _, rfl | ⟨eo, rfl⟩⟩ <;> rfl
theorem EGr.lstI {ks : List CK} (g : EGr h F lo lc ks.length l L) (hok : ∀ x ∈ L, cksOk ks x) (hm : L.length ≤ maxLen) (hc : lc ≤ 1267650600228229401496703205375) : LstI F (F + 1) h ks l L := by
  rcases g with ⟨rfl, c, ⟨_, hcl⟩, rfl, _⟩ | ⟨hp, c, ⟨_, hcl⟩, o⟩
  · exact ⟨lst_none, fun b o eo n cap e hp => by cases e; omega⟩
  · refine ⟨o.lst hok hm, fun b o' eo n cap e hp' => ?_⟩
    obtain ⟨pre, _, _, rfl | ⟨eo', rfl⟩⟩ := o
    · cases e; exact ⟨by unfold ky; omega, ky_next F c (by omega)⟩
    · cases e; exact ⟨by unfold ky; omega, ky_next F c (by omega)⟩
/-- the first append -/
theorem EGr.app0 {t t2 e e2 by' k f c : Nat} {b : AV} {ks : List CK} (hes : ks.length = es) (hg : hget h (ky F c) = some (mkRow [] es)) (hN : LstP h ks b N) (hu : P.underlying t = some (.slice e)) (h2 : P.underlying t2 = some (.slice e2)) (hs : sizeT P e = some es) (hb : bytesT P e = some by') (hz : zeroOk P e es by' = true)
    (hn : N.length ≤ 100000) (hby : by' ≤ 1000) (hck : c < lc) (hk : lc ≤ k) (htg : tagA P e = 0 := by kernel_rfl) :
    ∃ l' h3, appendA P t t2 (ky F k) ⟨h, f⟩ (.slice (ky F c) 0 0 0 (some 0)) b = some (l', ⟨h3, f⟩) ∧ EGr h3 F c (k + 1) es l' N ∧ ∀ i, i ≠ ky F k → hget h3 i = hget h i := by
  subst hes
  rcases Nat.eq_zero_or_pos N.length with h0 | hp
  · obtain rfl := List.length_eq_zero_iff.1 h0
    exact ⟨_, h, app_same (s := ⟨h, f⟩) hu h2 hs hb hz (src_none hN) (by decide) hby, .inl ⟨rfl, c, ⟨Nat.le_refl _, by omega⟩, rfl, hg⟩, fun _ _ => rfl⟩
  · refine ⟨_, _, (app_cap0 (s := ⟨h, f⟩) hu h2 hs hb hz (src_L hN hp) hp hg hn hby htg).trans (by rw [St.upd_eq]), .inr ⟨hp, k, ⟨by omega, by omega⟩, ?_⟩, fun i hi => ?_⟩
    · exact OwnL.new (fun x hx => (hN.1 x hx).length) (by show hget (hset h (ky F k) _) _ = _; rw [hget_hset, if_pos rfl]) (.inl rfl)
    · show hget (hset h (ky F k) _) i = _
      rw [hget_hset, if_neg hi]
/-- one more -/
theorem EGr.app {t t2 e e2 by' k f : Nat} {b : AV} {ks : List CK} (g : EGr h F lo lc es l L) (hes : ks.length = es) (he0 : 0 < es) (hN : LstP h ks b N) (hcl : ∀ x ∈ N, allCell x = true) (hu : P.underlying t = some (.slice e)) (h2 : P.underlying t2 = some (.slice e2)) (hs : sizeT P e = some es) (hb : bytesT P e = some by') (hz : zeroOk P e es by' = true)
    (hn : L.length + N.length ≤ 100000) (hby : by' ≤ 1000) (hk : lc ≤ k) (htg : tagA P e = 0 := by kernel_rfl) :
    ∃ l' h3, appendA P t t2 (ky F k) ⟨h, f⟩ l b = some (l', ⟨h3, f⟩) ∧ EGr h3 F lo (k + 1) es l' (L ++ N) ∧ ∀ h0, Low F h0 h → Low F h0 h3 := by
  rcases g with ⟨rfl, c, ⟨hlo, hcl'⟩, rfl, hg⟩ | ⟨hL, c, ⟨hlo, hcl'⟩, o⟩
  · obtain ⟨l', h3, h4, h5, h6⟩ := EGr.app0 (lc := lc) hes hg hN hu h2 hs hb hz (by simpa using hn) hby hcl' hk htg
    exact ⟨l', h3, h4, by simpa using h5.dn hlo, fun h0 hl i hi => (h6 i (by have := ky_le F k; omega)).trans (hl i hi)⟩
  · subst hes
    rcases Nat.eq_zero_or_pos N.length with h0 | hp
    · obtain rfl := List.length_eq_zero_iff.1 h0
      rw [List.append_nil]
      obtain ⟨pre, h1, h3, h4⟩ := o
      have hall : EGr h F lo (k + 1) ks.length l L := .inr ⟨hL, c, ⟨hlo, by omega⟩, pre, h1, h3, h4⟩
      rcases h4 with rfl | ⟨eo, rfl⟩
      · exact ⟨_, h, app_same (s := ⟨h, f⟩) hu h2 hs hb hz (src_none hN) (by omega) hby, hall, fun _ hl => hl⟩
      · exact ⟨_, h, app_same (s := ⟨h, f⟩) hu h2 hs hb hz (src_none hN) (by omega) hby, hall, fun _ hl => hl⟩
    · have hac : allCell N.flatten = true := by
        clear hN hn hp
        induction N with
        | nil => rfl
        | cons x N ih =>
          have h1 := hcl x List.mem_cons_self
          have h2 := ih fun y hy => hcl y (List.mem_cons_of_mem _ hy)
          rw [List.flatten_cons]
          clear ih hcl
          induction x with
          | nil => exact h2
          | cons a x ihx =>
            simp only [List.cons_append, allCell] at h1 ⊢
            cases hc : isCell a with
            | false => rw [hc] at h1; cases h1
            | true => rw [hc] at h1; exact ihx h1
      refine ⟨_, _, app_own (s := ⟨h, f⟩) hu h2 hs hb hz o (src_L hN hp) hp he0 (fun x hx => (hN.1 x hx).length) hac (by omega) hby htg, .inr ⟨by rw [List.length_append]; omega, k, ⟨by omega, by omega⟩, ?_⟩, fun h0 hl => ?_⟩
      · refine OwnL.new (fun x hx => ?_) (by rw [hget_hset, if_pos rfl]) (.inl rfl)
        rcases List.mem_append.1 hx with hx | hx
        · obtain ⟨pre, _, h3, _⟩ := o
          exact h3 x (List.mem_append_right _ hx)
        · exact (hN.1 x hx).length
      · refine Low.set ?_ (Nat.le_refl F)
        obtain ⟨pre, _, _, rfl | ⟨eo, rfl⟩⟩ := o
        · exact hl.set (Nat.le_refl F)
        · exact hl
end
end Go.Ai

/-! A region that draws its order: one new block of its own, appends; what is looked at lies in the memory that the region found. -/
namespace Go.Ai
open Go
variable {P : Program} {G : Glob} {K : CallF} {m : Nat} {Q : Ex → Fr → St → Prop}

/-! ### a memory without what is forgotten -/
noncomputable def T.filt {α : Type} : T α → (Nat → Bool) → T α
  | .e, _ => .e
  | .n l v r, p => .n (T.filt l fun j => p (2 * j + 1)) (match p 0 with | true => v | false => none) (T.filt r fun j => p (2 * j + 2))
theorem T.get_filt {α : Type} : ∀ (t : T α) (p : Nat → Bool) (k : Nat), (T.filt t p).get k = if p k = true then t.get k else none
  | .e, p, k => by simp [T.filt, T.get_e]
  | .n l v r, p, k => by
    rw [T.filt, T.get_n, T.get_n]
    by_cases h0 : k = 0
    · subst h0
      simp only [if_true]
      cases p 0 <;> simp
    · rw [if_neg h0, if_neg h0]
      by_cases h1 : k % 2 = 1
      · rw [if_pos h1, if_pos h1, T.get_filt l, show 2 * (k / 2) + 1 = k by omega]
      · rw [if_neg h1, if_neg h1, T.get_filt r, show 2 * (k / 2 - 1) + 2 = k by omega]
noncomputable def sweep (h : Heap) (F : Nat) : Heap := T.filt h fun j => Nat.blt j F
theorem hget_sweep (h : Heap) (F i : Nat) : hget (sweep h F) i = if i < ky F 0 then hget h i else none := by
  unfold hget sweep
  rw [T.get_filt]
  have key : Nat.blt (Nat.div i 1267650600228229401496703205376) F = true ↔ i < ky F 0 := by
    rw [Nat.blt_eq]
    show i / 1267650600228229401496703205376 < F ↔ _
    unfold ky
    rw [Nat.div_lt_iff_lt_mul (by decide)]
    omega
  by_cases h : i < ky F 0
  · rw [if_pos (key.2 h), if_pos h]
  · rw [if_neg (fun e => h (key.1 e)), if_neg h]
/-- the same memory: the same blocks that are there -/
def AlikeH (h h' : Heap) : Prop := ∀ i ab, ab ≠ .dead → (hget h i = some ab ↔ hget h' i = some ab)
theorem AlikeH.symm {h h' : Heap} (a : AlikeH h h') : AlikeH h' h := fun i ab hd => (a i ab hd).symm
theorem alike_sweep {h : Heap} {F : Nat} (hw : Wf ⟨h, F⟩) : AlikeH h (sweep h F) := by
  intro i ab hd
  rw [hget_sweep]
  constructor
  · intro hi
    rw [if_pos (hw i ab hi hd)]; exact hi
  · intro hi
    split at hi
    · exact hi
    · cases hi
theorem AlikeH.live {h h' : Heap} (a : AlikeH h h') {i : Nat} (l : live (hget h) i) : live (hget h') i := by
  obtain ⟨ab, h1, h2⟩ := l
  exact ⟨ab, (a i ab h2.nd).1 h1, h2⟩
theorem AlikeH.rh {h h' : Heap} (a : AlikeH h h') {ρ : Map} {base : Nat} {w : World} (r : RH ρ base (hget h) w) : RH ρ base (hget h') w :=
  ⟨fun i ab hi hd => r.blk i ab ((a i ab hd).2 hi) hd, fun i j e e' li lj => r.inj i j e e' (a.symm.live li) (a.symm.live lj)⟩
theorem AlikeH.rm {h h' : Heap} {F : Nat} (a : AlikeH h h') {ρ : Map} {base : Nat} {w : World} (r : RM G base ρ ⟨h, F⟩ w) : RM G base ρ ⟨h', F⟩ w := ⟨a.rh r.rh, r.rg, r.bs, r.hi⟩
theorem AlikeH.owns {h h' : Heap} (a : AlikeH h h') {ρ : Map} {b : Nat} (o : owns ρ (hget h) b) : owns ρ (hget h') b := by
  obtain ⟨i, e, l, h1, h2⟩ := o
  exact ⟨i, e, a.live l, h1, h2⟩
theorem AlikeH.adv {h h' h1 h1' : Heap} {F F1 base : Nat} (a : AlikeH h h') (a1 : AlikeH h1 h1') {ρ ρ1 : Map} {w w1 : World} (v : Adv base (fun _ => False) ρ ⟨h, F⟩ w ρ1 ⟨h1, F1⟩ w1) : Adv base (fun _ => False) ρ ⟨h', F⟩ w ρ1 ⟨h1', F1⟩ w1 :=
  ⟨⟨v.st.mono, ⟨v.st.keeps.os, v.st.keeps.tape, v.st.keeps.output, v.st.keeps.size, fun b hb hn => v.st.keeps.block b hb fun o => hn (a.owns o)⟩, a1.rh v.st.rh, fun b hb => (v.st.grow b (a1.symm.owns hb)).imp (fun o => a.owns o) id⟩, v.fc, v.keep, v.hi⟩
/-! ### the walk along the order -/
/-! ### rules -/
section
variable {l : List Oper} {h0 : Heap} {j : Nat} {js : List Nat} {fr fr' : Fr} {s s' : St} {dst : Option Tmp} {op : Op} {ty : TypeId} {pos : String} {after : Array Edge} {pend : Option (Nat × AB)} {dn : Option Nat} {v : AV}
end
end Go.Ai

/-! A region that draws its order, with all that it may do: looks, new blocks, acts, calls. -/
namespace Go.Ai
open Go
variable {P : Program} {G : Glob} {K : CallF} {m : Nat} {Q : Ex → Fr → St → Prop}
abbrev Rds := List (Nat × Nat × Op × AV)
def DG (P : Program) (G : Glob) (K : CallF) (l : List Oper) (Q : Ex → Fr → St → Prop) : List (Nat × Nat) → Fr → St → Made → Rds → Prop
  | [], fr, s, M, _ => Q .normal (fr.bump l.length) (s.withH (addAll s.h M))
  | (j, b) :: r, fr, s, M, rs => ∃ o, l[j]? = some o ∧
      ((wantedA fr l.toArray o = false ∧ ∃ fr', fr.put o.dst .undef = some fr' ∧ DG P G K l Q r fr' s M rs) ∨
       (wantedA fr l.toArray o = true ∧ clsOf o.op = .pure ∧ ∃ v fr', pureOp P fr o.op = some v ∧ fr.put o.dst v = some fr' ∧ DG P G K l Q r fr' s M rs) ∨
       (wantedA fr l.toArray o = true ∧ clsOf o.op = .read ∧ ∃ v fr', readOp P G fr (addMade b s.h M) o.op = some v ∧ fr.put o.dst v = some fr' ∧ DG P G K l Q r fr' s M ((j, b, o.op, v) :: rs)) ∨
       (wantedA fr l.toArray o = true ∧ clsOf o.op = .alloc ∧ ∃ v blk fr', allocOp P fr (keyOf fr j) o.op = some (v, blk) ∧ hget s.h (keyOf fr j) = none ∧ fr.put o.dst v = some fr' ∧ DG P G K l Q r fr' s ((j, keyOf fr j, blk) :: M) rs) ∨
       (wantedA fr l.toArray o = true ∧ clsOf o.op = .heavy ∧ (∀ t x, o.op ≠ .range t x) ∧ ∃ outs, heavy P K fr (keyOf fr j) (s.withH (addMade b s.h M)) o.op = some outs ∧
          ∀ x ∈ outs, backQ fr o.dst (fun fr' s' => readsOk P G fr s'.h M (readsLeft b rs) = true ∧ asideOk (addMade b s.h M) s'.h M = true ∧ DG P G K l Q r fr' s' M rs) x))
theorem dg_sound {l : List Oper} : ∀ {order : List DE} {js : List (Nat × Nat)} {done : Nat} {fr : Fr} {s : St} {M : Made} {rs : Rds}, order.map (fun e => (e.1, e.2.1)) = js → (∀ e ∈ order, l[e.1]? = some e.2.2.2) → DG P G K l Q js fr s M rs → WR (drawOps P G K l.toArray l.length order done fr s ⟨M, rs⟩) Q
  | [], js, done, fr, s, M, rs, hj, _, hw => by
    subst hj
    simp only [drawOps, wr_one]
    exact hw
  | (i, b, c, o) :: rest, js, done, fr, s, M, rs, hj, hl, hw => by
    subst hj
    simp only [List.map_cons, DG] at hw
    obtain ⟨o', ho, hw⟩ := hw
    have := hl _ List.mem_cons_self
    simp only at this
    rw [this] at ho
    cases ho
    have hl' : ∀ e ∈ rest, l[e.1]? = some e.2.2.2 := fun e he => hl e (List.mem_cons_of_mem _ he)
    rcases hw with ⟨hg, fr', hp, hw⟩ | ⟨hg, hcl, v, fr', h1, hp, hw⟩ | ⟨hg, hcl, v, fr', h1, hp, hw⟩ | ⟨hg, hcl, v, blk, fr', h1, h2, hp, hw⟩ | ⟨hg, hcl, hr, outs, h1, hbk⟩
    · simp only [drawOps, hg, hp, putK, natC_eq]
      exact dg_sound rfl hl' hw
    · simp only [drawOps, hg, dOne, hcl, h1, putV, hp, putK, natC_eq]
      exact dg_sound rfl hl' hw
    · simp only [drawOps, hg, dOne, hcl, h1, dRead, hp, putK, natC_eq]
      exact dg_sound rfl hl' hw
    · simp only [drawOps, hg, dOne, hcl, h1, dAlloc, h2, hp, putK, natC_eq]
      exact dg_sound rfl hl' hw
    · simp only [drawOps, hg, dOne, hcl]
      have e3 : dHeavy P G K o b i done fr (s.withH (addMade b s.h M)) ⟨M, rs⟩ (fun fr s z => natC (Nat.lor done (2 ^ i)) fun d => drawOps P G K l.toArray l.length rest d fr s z) = dHeavy2 P G o b done fr (addMade b s.h M) ⟨M, rs⟩ (fun fr s z => natC (Nat.lor done (2 ^ i)) fun d => drawOps P G K l.toArray l.length rest d fr s z) (heavy P K fr (keyOf fr i) (s.withH (addMade b s.h M)) o.op) := by
        unfold dHeavy
        split
        · rename_i h0; exact absurd h0 (hr _ _)
        · rw [St.withH_eq]
      rw [e3, h1]
      simp only [dHeavy2]
      refine wr_douts (dst := o.dst) (k := fun fr' s' => readsOk P G fr s'.h M (readsLeft b rs) = true ∧ asideOk (addMade b s.h M) s'.h M = true ∧ DG P G K l Q (rest.map fun e => (e.1, e.2.1)) fr' s' M rs) ?_ hbk
      rintro v s' fr' hp ⟨h2, h3, hw⟩
      simp only [h2, h3, hp, putK, natC_eq]
      exact dg_sound rfl hl' hw
section
variable {S : FuncId → List AV → St → Out → Prop} {l : List Oper} {j b : Nat} {js : List (Nat × Nat)} {fr fr' : Fr} {s s' : St} {M : Made} {rs : Rds} {o : Oper} {v : AV} {f : FuncId} {args : List AV}
theorem r_drawG {id : Nat} {F lc n : Nat} {t : T AV} {df : List (AV × List AV)} {rc : Rc} (hj : (theOrder l).map (fun e => (e.1, e.2.1)) = js) (hok : drawOk l (theOrder l) = true) (hk : lc + l.length ≤ 1267650600228229401496703205375)
    (h : DG P G K l Q js ⟨F, lc, n, t, df, rc⟩ s [] []) : WR (code P G K m (.region id l.toArray true) ⟨F, lc, n, t, df, rc⟩ s) Q := by
  have hkk : keysOk ⟨F, lc, n, t, df, rc⟩ l.length = true := by rw [keysOk_mk]; exact decide_eq_true hk
  rw [code]
  unfold region
  simp only [List.toList_toArray, hkk]
  unfold drawn
  simp only [List.toList_toArray, hok]
  exact dg_sound hj theOrder_at h
theorem g_end {F lc lc' n : Nat} {t : T AV} {df : List (AV × List AV)} {rc : Rc} (hl : lc + l.length = lc') (h : Q .normal ⟨F, lc', n, t, df, rc⟩ (s.withH (addAll s.h M))) : DG P G K l Q [] ⟨F, lc, n, t, df, rc⟩ s M rs := by
  show Q .normal (Fr.bump ⟨F, lc, n, t, df, rc⟩ l.length) _
  rw [bump_mk, hl]; exact h
theorem g_undef (ho : l[j]? = some o) (hw : wantedA fr l.toArray o = false) (hp : fr.put o.dst .undef = some fr') (hk : DG P G K l Q js fr' s M rs) : DG P G K l Q ((j, b) :: js) fr s M rs :=
  ⟨o, ho, .inl ⟨hw, fr', hp, hk⟩⟩
theorem g_pure (ho : l[j]? = some o) (hc : clsOf o.op = .pure) (hw : wantedA fr l.toArray o = true) (hv : pureOp P fr o.op = some v) (hp : fr.put o.dst v = some fr') (hk : DG P G K l Q js fr' s M rs) : DG P G K l Q ((j, b) :: js) fr s M rs :=
  ⟨o, ho, .inr (.inl ⟨hw, hc, v, fr', hv, hp, hk⟩)⟩
theorem g_read (ho : l[j]? = some o) (hc : clsOf o.op = .read) (hw : wantedA fr l.toArray o = true) (hv : readOp P G fr (addMade b s.h M) o.op = some v) (hp : fr.put o.dst v = some fr') (hk : DG P G K l Q js fr' s M ((j, b, o.op, v) :: rs)) : DG P G K l Q ((j, b) :: js) fr s M rs :=
  ⟨o, ho, .inr (.inr (.inl ⟨hw, hc, v, fr', hv, hp, hk⟩))⟩
theorem g_alloc {blk : AB} {key : Nat} (ho : l[j]? = some o) (hc : clsOf o.op = .alloc) (hw : wantedA fr l.toArray o = true) (hke : keyOf fr j = key) (hv : allocOp P fr key o.op = some (v, blk)) (hn : hget s.h key = none) (hp : fr.put o.dst v = some fr') (hk : DG P G K l Q js fr' s ((j, key, blk) :: M) rs) : DG P G K l Q ((j, b) :: js) fr s M rs := by
  subst hke
  exact ⟨o, ho, .inr (.inr (.inr (.inl ⟨hw, hc, v, blk, fr', hv, hn, hp, hk⟩)))⟩
def notRng : Op → Bool
  | .range .. => false
  | _ => true
theorem g_act (ho : l[j]? = some o) (hc : clsOf o.op = .heavy) (hr : notRng o.op = true) (hw : wantedA fr l.toArray o = true) (hv : heavy P K fr (keyOf fr j) (s.withH (addMade b s.h M)) o.op = some [.val v s']) (hp : fr.put o.dst v = some fr')
    (h1 : readsOk P G fr s'.h M (readsLeft b rs) = true) (h2 : asideOk (addMade b s.h M) s'.h M = true) (hk : DG P G K l Q js fr' s' M rs) : DG P G K l Q ((j, b) :: js) fr s M rs :=
  ⟨o, ho, .inr (.inr (.inr (.inr ⟨hw, hc, fun t x e => (by rw [e] at hr; cases hr), _, hv, fun x hx => by cases List.mem_singleton.1 hx; exact ⟨fr', hp, h1, h2, hk⟩⟩)))⟩
end
theorem sndQ_wf {f : FuncId} {args : List AV} {s : St} {Q : Out → Prop} (h : Wf s → SndQ P G f args s Q) : SndQ P G f args s Q := by
  by_cases hw : Wf s
  · exact h hw
  · exact ⟨[], snd_wf fun h1 => absurd h1 hw, by simp⟩
/-! ### a clean memory: nothing at the frame's own names -/
theorem sweep_low {h : Heap} {F : Nat} : Low F h (sweep h F) := fun i hi => by rw [hget_sweep, if_pos hi]
theorem sndQ_clean {f : FuncId} {args : List AV} {h : Heap} {F : Nat} {Q : Out → Prop} (hk : ∀ h0, Wf ⟨h0, F⟩ → Low F h h0 → (∀ i, ky F 0 ≤ i → hget h0 i = none) → SndQ P G f args ⟨h0, F⟩ Q) : SndQ P G f args ⟨h, F⟩ Q := by
  by_cases hw : Wf ⟨h, F⟩
  · have hal := alike_sweep hw
    have hw0 : Wf ⟨sweep h F, F⟩ := by
      intro i ab hi hd
      simp only at hi
      rw [hget_sweep] at hi
      split at hi
      · assumption
      · cases hi
    obtain ⟨outs, h1, h2⟩ := hk (sweep h F) hw0 sweep_low fun i hi => by rw [hget_sweep, if_neg (by omega)]
    refine ⟨outs, ?_, h2⟩
    intro base ρ w vs rv rm
    have := h1 base ρ w vs rv (hal.rm rm)
    refine this.mono ?_
    rintro e w' ⟨ρ', ⟨v, s', u, h3, h4, h5, h6⟩ | ⟨v, s', u, h3, h4, h5, h6⟩⟩
    · exact ⟨ρ', .inl ⟨v, s', u, h3, h4, h5, hal.symm.adv (fun _ _ _ => Iff.rfl) h6⟩⟩
    · exact ⟨ρ', .inr ⟨v, s', u, h3, h4, h5, hal.symm.adv (fun _ _ _ => Iff.rfl) h6⟩⟩
  · exact ⟨[], snd_wf fun h1 => absurd h1 hw, by simp⟩
end Go.Ai

/-! Lists that may be written: their blocks are rows. -/
namespace Go.Ai
open Go
def WrX (h : Heap) (x : List AV) : Prop := ∀ (b o eo n : Nat) (cap : Option Nat), AV.slice b o eo n cap ∈ x → 0 < n → ∃ cells e2, hget h b = some (mkRow cells e2)
theorem WrX.cons {h : Heap} {a : AV} {x : List AV} (h1 : WrX h [a]) (h2 : WrX h x) : WrX h (a :: x) := fun b o eo n cap hm hp => by
  rcases List.mem_cons.1 hm with e | hm
  · exact h1 b o eo n cap (by rw [e]; simp) hp
  · exact h2 b o eo n cap hm hp
theorem WrX.no {h : Heap} {a : AV} (ha : ∀ b o eo n cap, a ≠ .slice b o eo n cap) : WrX h [a] := fun b o eo n cap hm => absurd (List.mem_singleton.1 hm).symm (ha b o eo n cap)
theorem WrX.sub {h : Heap} {x y : List AV} (hx : WrX h x) (hs : ∀ a ∈ y, a ∈ x) : WrX h y := fun b o eo n cap hm hp => hx b o eo n cap (hs _ hm) hp
theorem WrX.move {A B : Nat} {h h' : Heap} {ks : List CK} {a : AV} {L : List (List AV)} (hx : WrX h [a]) (hl : LstI A B h ks a L) (he : EqI A B h h') : WrX h' [a] := fun b o eo n cap hm hp => by
  have e := List.mem_singleton.1 hm
  obtain ⟨cells, e2, hg⟩ := hx b o eo n cap hm hp
  obtain ⟨h1, h2⟩ := hl.2 b o eo n cap e.symm hp
  exact ⟨cells, e2, (he b h1 h2).trans hg⟩
theorem EGr.wr {h : Heap} {F lo lc es : Nat} {l : AV} {L : List (List AV)} (g : EGr h F lo lc es l L) : WrX h [l] := fun b o eo n cap hm hp => by
  have e := List.mem_singleton.1 hm
  rcases g with ⟨rfl, c, _, rfl, hg⟩ | ⟨_, c, _, pre, h1, _, rfl | ⟨eo', rfl⟩⟩
  · cases e; omega
  · cases e; exact ⟨_, _, h1⟩
  · cases e; exact ⟨_, _, h1⟩
/-- the cells of a pass -/
theorem WrX.pas {h : Heap} {c t how : Int} {n : List UInt8} {a r w i : AV} (ha : WrX h [a]) (hr : WrX h [r]) (hw : WrX h [w]) (hi : WrX h [i]) : WrX h [.int .i64 c, .int .u64 t, .str n, a, .int .i64 how, r, w, i] :=
  .cons (.no (by intros; simp)) (.cons (.no (by intros; simp)) (.cons (.no (by intros; simp)) (.cons ha (.cons (.no (by intros; simp)) (.cons hr (.cons hw hi))))))
theorem WrX.zero {h : Heap} : WrX h [.int .i64 0, .int .u64 0, .str [], .nils, .int .i64 0, .nils, .nils, .nils] := .pas (.no (by intros; simp)) (.no (by intros; simp)) (.no (by intros; simp)) (.no (by intros; simp))
end Go.Ai

