/- A part of the proof of the law ReplayDiffers. CONDITIONS: those that each theorem names. -/
import Derived.Lib.Bytes
import Derived.Lib.Bytealg
import Derived.Lib.ItoaLen
import Derived.Test.YtfhgiadogeephaaGreatDoorEngineA
import Derived.Test.YtfhgiadogeephaaGreatDoorEngineB
import Derived.Test.YtfhgiadogeephaaGreatDoorEngineC
import Derived.Test.YtfhgiadogeephaaGreatDoorEngineD
import Derived.Test.YtfhgiadogeephaaGreatDoorPartA
import Derived.Test.YtfhgiadogeephaaGreatDoorSTTypes
import Derived.Test.YtfhgiadogeephaaGreatDoorPartB
import Derived.Test.YtfhgiadogeephaaGreatDoorSTLay
/-! Maps with texts as keys, whose entries are not known; ranges over them. -/
namespace Go.Ai
open Go
variable {P : Program} {G : Glob} {t : TypeId}
abbrev SM := List (List UInt8 × AV)
/-- the first place of a key, and what stands there -/
def fdM (x : List UInt8) : SM → Option (Nat × AV)
  | [] => none
  | (k, v) :: M => if x == k then some (0, v) else (fdM x M).map fun p => (p.1 + 1, p.2)
def lkM (x : List UInt8) (M : SM) : Option AV := (fdM x M).map (·.2)
def setM (x : List UInt8) (v : AV) : SM → SM
  | [] => [(x, v)]
  | (k, w) :: M => if x == k then (k, v) :: M else (k, w) :: setM x v M
section
variable {h : Heap} {id : Nat} {et : TypeId} {M : SM} {x : List UInt8} {z v : AV} {ok : Bool}
end
/-! ### ranges -/
section
variable {K : CallF} {Q : Ex → Fr → St → Prop} {ops : Array Oper} {rest : List Oper} {i F lc n d it id m : Nat} {tt : T AV} {df : List (AV × List AV)} {rc : Rc} {s : St} {ty : TypeId} {pos : String} {after : Array Edge} {M : SM} {seen : List Nat}
end
end Go.Ai

/-! What a range over a map has not seen yet. -/
namespace Go.Ai
open Go
end Go.Ai

/-! What a footprint's map holds: of each text whether it is read, written. -/
namespace Go.Ai
open Go
abbrev Tx := List UInt8
/-- a byte of two bits, joined -/
def orI (x b : Int) : Int := if b = 1 then (if x = 0 then 1 else if x = 2 then 3 else x) else (if x = 0 then 2 else if x = 1 then 3 else x)
def getI (k : Tx) (M : SM) : Int := match lkM k M with
  | some (.int _ n) => n
  | _ => 0
def up (b : Int) (M : SM) (k : Tx) : SM := setM k (.int .u8 (orI (getI k M) b)) M
open Classical in
theorem isCell_L {h : Heap} {ks : List CK} {a : AV} {L : List (List AV)} (hl : LstP h ks a L) : isCell a = true := by
  rcases hl.2.2 with ⟨rfl | rfl, _⟩ | ⟨b, o, eo, cap, rfl, _⟩ <;> rfl
end Go.Ai

/-! Lines of a text; the first place at which two lists differ. -/
namespace Go.Ai
open Go
/-- lines that have ended, and what stands behind the last one -/
def lnS : List Tx × Tx → UInt8 → List Tx × Tx := fun s c => if c = 10 then (s.1 ++ [s.2 ++ [c]], []) else (s.1, s.2 ++ [c])
def lnR (t : Tx) : List Tx × Tx := t.foldl lnS ([], [])
def lnL (t : Tx) : List Tx := if (lnR t).2 = [] then (lnR t).1 else (lnR t).1 ++ [(lnR t).2]
theorem lnF_no : ∀ (t : Tx) (l : List Tx) (p : Tx), (10 : UInt8) ∉ t → t.foldl lnS (l, p) = (l, p ++ t)
  | [], l, p, _ => by simp
  | c :: t, l, p, h => by
    have h1 : ¬ c = 10 := fun e => h (by simp [e])
    have h2 : (10 : UInt8) ∉ t := fun e => h (by simp [e])
    rw [List.foldl_cons, show lnS (l, p) c = (l, p ++ [c]) by simp [lnS, h1], lnF_no t l _ h2]
    simp
theorem lnF_join : ∀ (t : Tx) (s : List Tx × Tx), (t.foldl lnS s).1.flatten ++ (t.foldl lnS s).2 = s.1.flatten ++ s.2 ++ t
  | [], s => by simp
  | c :: t, s => by
    rw [List.foldl_cons, lnF_join t]
    unfold lnS
    split <;> simp
theorem lnR_join (t : Tx) : (lnR t).1.flatten ++ (lnR t).2 = t := by
  have := lnF_join t ([], [])
  simpa [lnR] using this
theorem lnL_join (t : Tx) : (lnL t).flatten = t := by
  have := lnR_join t
  unfold lnL
  split
  · rename_i h; rw [h] at this; simpa using this
  · simpa using this
theorem lnL_inj {a b : Tx} (h : lnL a = lnL b) : a = b := by rw [← lnL_join a, ← lnL_join b, h]
theorem lnR_take {t : Tx} {i : Nat} {c : UInt8} (h : t[i]? = some c) : lnR (t.take (i + 1)) = lnS (lnR (t.take i)) c := by
  unfold lnR
  rw [List.take_add_one, h, List.foldl_append]
  rfl
theorem lnF_len : ∀ (t : Tx) (s : List Tx × Tx), (t.foldl lnS s).1.length ≤ s.1.length + t.length
  | [], s => by simp
  | c :: t, s => by
    rw [List.foldl_cons]
    have := lnF_len t (lnS s c)
    have : (lnS s c).1.length ≤ s.1.length + 1 := by unfold lnS; split <;> simp
    simp only [List.length_cons]
    omega
theorem lnR_len (t : Tx) : (lnR t).1.length ≤ t.length := by simpa [lnR] using lnF_len t ([], [])
/-- the first place at which two lists differ -/
noncomputable def fd {α : Type} : List α → List α → Nat
  | x :: xs, y :: ys => open Classical in if x = y then fd xs ys + 1 else 0
  | _, _ => 0
section
variable {α : Type}
theorem fd_comm : ∀ l m : List α, fd l m = fd m l
  | [], [] => rfl
  | [], _ :: _ => rfl
  | _ :: _, [] => rfl
  | x :: xs, y :: ys => by
    unfold fd
    by_cases h : x = y
    · subst h; simp [fd_comm xs ys]
    · simp [h, Ne.symm h, show ¬ y = x from fun e => h e.symm]
theorem fd_le : ∀ l m : List α, fd l m ≤ l.length
  | [], [] => Nat.le_refl _
  | [], _ :: _ => Nat.le_refl _
  | _ :: _, [] => Nat.zero_le _
  | x :: xs, y :: ys => by
    unfold fd
    have := fd_le xs ys
    split <;> simp <;> omega
theorem fd_le' (l m : List α) : fd l m ≤ m.length := by rw [fd_comm]; exact fd_le m l
/-- all alike ahead of a place that is the end or differs -/
theorem fd_is : ∀ (n : Nat) (l m : List α), n ≤ l.length → n ≤ m.length → (∀ j : Nat, j < n → l[j]? = m[j]?) → (n = l.length ∨ n = m.length ∨ l[n]? ≠ m[n]?) → fd l m = n
  | 0, [], m, _, _, _, _ => by cases m <;> rfl
  | 0, x :: xs, [], _, _, _, _ => rfl
  | 0, x :: xs, y :: ys, _, _, _, h => by
    have : ¬ x = y := by
      rcases h with h | h | h
      · simp at h
      · simp at h
      · simpa using h
    simp [fd, this]
  | n + 1, [], m, h, _, _, _ => by simp at h
  | n + 1, x :: xs, [], _, h, _, _ => by simp at h
  | n + 1, x :: xs, y :: ys, h1, h2, h3, h4 => by
    have e : x = y := by simpa using h3 0 (by omega)
    subst e
    have := fd_is n xs ys (by simpa using h1) (by simpa using h2) (fun j hj => by simpa using h3 (j + 1) (by omega)) (by
      rcases h4 with h | h | h
      · exact .inl (by simpa using h)
      · exact .inr (.inl (by simpa using h))
      · exact .inr (.inr (by simpa using h)))
    simp [fd, this]
theorem fd_at : ∀ (l m : List α) (j : Nat), j < fd l m → l[j]? = m[j]?
  | x :: xs, y :: ys, j, h => by
    unfold fd at h
    split at h
    · rename_i e
      subst e
      cases j with
      | zero => rfl
      | succ j => simpa using fd_at xs ys j (by omega)
    · omega
  | [], [], j, h => by simp [fd] at h
  | [], _ :: _, j, h => by simp [fd] at h
  | _ :: _, [], j, h => by simp [fd] at h
theorem fd_eq {l m : List α} (h1 : fd l m = l.length) (h2 : l.length = m.length) : l = m := by
  apply List.ext_getElem? 
  intro j
  by_cases hj : j < l.length
  · exact fd_at l m j (by omega)
  · rw [List.getElem?_eq_none (by omega), List.getElem?_eq_none (by omega)]
end
end Go.Ai

/-! Slices of bytes that are not known; lists of such. -/
namespace Go.Ai
open Go Go.RowKit
variable {P : Program} {G : Glob}
/-- the slice a holds the bytes t -/
def BytP (h : Heap) (a : AV) (t : Tx) : Prop :=
  t.length ≤ maxLen ∧ (((a = .nils ∨ a = .hole) ∧ t = []) ∨ ∃ b o eo cap, a = .slice b o eo t.length cap ∧ rdAB (hget h b) o t.length = some (byCells t))
theorem byCells_inj : ∀ {a b : Tx}, byCells a = byCells b → a = b
  | [], [], _ => rfl
  | [], _ :: _, h => by simp [byCells] at h
  | _ :: _, [], h => by simp [byCells] at h
  | x :: a, y :: b, h => by
    simp only [byCells, List.map_cons, List.cons.injEq, AV.int.injEq, true_and] at h
    have h1 : x.toNat = y.toNat := by have := h.1; omega
    rw [UInt8.toNat_inj.1 h1, byCells_inj (a := a) (b := b) h.2]
section
variable {h h1 : Heap} {a : AV} {t u : Tx}
theorem BytP.same (hb : BytP h a t) (hs : SameH h h1) : BytP h1 a t := by
  refine ⟨hb.1, hb.2.imp id ?_⟩
  rintro ⟨b, o, eo, cap, e, r⟩
  exact ⟨b, o, eo, cap, e, hs.rd r⟩
theorem BytP.uniq (h1 : BytP h a t) (h2 : BytP h a u) : t = u := by
  obtain ⟨_, c1⟩ := h1
  obtain ⟨_, c2⟩ := h2
  rcases c1 with ⟨q, rfl⟩ | ⟨b, o, eo, cap, rfl, r1⟩
  · rcases c2 with ⟨_, rfl⟩ | ⟨b, o, eo, cap, e, _⟩
    · rfl
    · rcases q with rfl | rfl <;> cases e
  · rcases c2 with ⟨e, _⟩ | ⟨b', o', eo', cap', e, r2⟩
    · rcases e with e | e <;> cases e
    · injection e with e1 e2 e3 e4 e5
      subst e1 e2
      rw [← e4] at r2
      rw [r1] at r2
      exact byCells_inj (Option.some.inj r2)
noncomputable def bytO (h : Heap) (a : AV) : Option Tx := open Classical in if e : ∃ t, BytP h a t then some e.choose else none
theorem bytO_eq (hb : BytP h a t) : bytO h a = some t := by
  unfold bytO
  rw [dif_pos ⟨t, hb⟩]
  congr 1
  exact BytP.uniq (Exists.choose_spec (⟨t, hb⟩ : ∃ t, BytP h a t)) hb
theorem bytO_same (hb : BytP h a t) (hs : SameH h h1) : bytO h1 a = some t := bytO_eq (hb.same hs)
theorem BytP.cell (hb : BytP h a t) : isCell a = true := by
  rcases hb.2 with ⟨rfl | rfl, _⟩ | ⟨b, o, eo, cap, rfl, _⟩ <;> rfl
theorem BytP.cls (hb : BytP h a t) : a.cells = [a] := by
  rcases hb.2 with ⟨rfl | rfl, _⟩ | ⟨b, o, eo, cap, rfl, _⟩ <;> rfl
theorem BytP.ckl (hb : BytP h a t) : ckOk .l a := by
  rcases hb.2 with ⟨rfl | rfl, _⟩ | ⟨b, o, eo, cap, rfl, _⟩ <;> trivial
theorem rLen1_B {ty e : TypeId} {h2 : Heap} (hu : P.underlying ty = some (.slice e)) (hb : BytP h a t) : rLen1 P h2 ty (some a) = some (.int .i64 (t.length : Int)) := by
  rcases hb.2 with ⟨rfl | rfl, rfl⟩ | ⟨b, o, eo, cap, rfl, _⟩ <;> simp only [rLen1, lenA, hu] <;> rfl
/-- the text of them -/
theorem rCv_B {src dst e : TypeId} (hs : P.underlying src = some (.slice e)) (he : P.underlying e = some (.int .u8)) (hd : P.underlying dst = some .string) (hb : BytP h a t) (hh : SameH h h1) : rCv P h1 src dst (some a) = some (.str t) := by
  have hi : isBytes P src dst = true := by simp only [isBytes, hs, hd, he]
  rcases (hb.same hh).2 with ⟨rfl | rfl, rfl⟩ | ⟨b, o, eo, cap, rfl, r⟩
  · simp only [rCv, hi]
  · simp only [rCv, hi]
  · simp only [rCv, hi, readCells_eq, r, rCvB, bytesOf_by, someStr]
/-- a part of them -/
theorem BytP.part {lo hi : Nat} (hb : BytP h a t) (h1 : lo ≤ hi) (h2 : hi ≤ t.length) {b o eo n : Nat} {cap : Option Nat} (e : a = .slice b o eo n cap) (eo' : Nat) (cap' : Option Nat) : BytP h (.slice b (Nat.add o (Nat.mul lo 1)) eo' (Nat.sub hi lo) cap') ((t.drop lo).take (hi - lo)) := by
  have hl : ((t.drop lo).take (hi - lo)).length = hi - lo := by simp; omega
  refine ⟨by rw [hl]; have := hb.1; omega, .inr ⟨b, _, eo', cap', by rw [hl]; rfl, ?_⟩⟩
  rcases hb.2 with ⟨c | c, _⟩ | ⟨b', o', eo'', cap'', e', r⟩
  · rw [c] at e; cases e
  · rw [c] at e; cases e
  · rw [e'] at e
    cases e
    have := rdAB_part r (k := lo) (j := hi - lo) (by omega)
    rw [hl]
    show rdAB (hget h b) (o + lo * 1) (hi - lo) = _
    rw [Nat.mul_one, this, byCells, ← List.map_drop, ← List.map_take]
    rfl
theorem bnd2 {lo hi lim : Nat} (h1 : lo ≤ hi) (h2 : hi ≤ lim) {n : Nat} : boundsA n lim (some (.int .i64 (lo : Int))) (some (.int .i64 (hi : Int))) none = some (lo, hi, none) := by
  have e1 : natOf (.int .i64 (lo : Int)) = some lo := rfl
  have e2 : natOf (.int .i64 (hi : Int)) = some hi := rfl
  simp only [boundsA, boundA, e1, e2, Nat.ble_eq_true_of_le h1, Nat.ble_eq_true_of_le h2, Bool.and_self]
theorem bndL {lo lim : Nat} {n : Nat} (h1 : lo ≤ n) (h2 : n ≤ lim) : boundsA n lim (some (.int .i64 (lo : Int))) none none = some (lo, n, none) := by
  have e1 : natOf (.int .i64 (lo : Int)) = some lo := rfl
  simp only [boundsA, boundA, e1, Nat.ble_eq_true_of_le h1, Nat.ble_eq_true_of_le h2, Bool.and_self]
theorem bndH {hi lim : Nat} {n : Nat} (h1 : hi ≤ lim) : boundsA n lim none (some (.int .i64 (hi : Int))) none = some (0, hi, none) := by
  have e1 : natOf (.int .i64 (hi : Int)) = some hi := rfl
  simp only [boundsA, boundA, e1, Nat.ble_eq_true_of_le h1, Nat.ble_eq_true_of_le (Nat.zero_le hi), Bool.and_self]
theorem bndM {hi m lim : Nat} {n : Nat} (h1 : hi ≤ m) (h2 : m ≤ lim) : boundsA n lim none (some (.int .i64 (hi : Int))) (some (.int .i64 (m : Int))) = some (0, hi, some m) := by
  have e1 : natOf (.int .i64 (hi : Int)) = some hi := rfl
  have e2 : natOf (.int .i64 (m : Int)) = some m := rfl
  simp only [boundsA, boundA, e1, e2, Nat.ble_eq_true_of_le h1, Nat.ble_eq_true_of_le h2, Nat.ble_eq_true_of_le (Nat.zero_le hi), Bool.and_self]
end
section
variable {h h1 : Heap} {a : AV} {t : Tx} {ty e : TypeId}
/-- a[lo:hi]; the slice's room is as it says -/
def RoomA : AV → Prop
  | .slice _ _ _ n (some c) => n ≤ c
  | _ => True
theorem sl_lohi {lo hi : Nat} (hu : P.underlying ty = some (.slice e)) (hs : sizeT P e = some 1) (hb : BytP h a t) (hr : RoomA a) (h1 : lo ≤ hi) (h2 : hi ≤ t.length) (hp : 0 < t.length) :
    ∃ a', sliceA P ty a (some (.int .i64 (lo : Int))) (some (.int .i64 (hi : Int))) none = some a' ∧ BytP h a' ((t.drop lo).take (hi - lo)) := by
  rcases hb.2 with ⟨_, rfl⟩ | ⟨b, o, eo, cap, rfl, r⟩
  · simp at hp
  · cases cap with
    | none => exact ⟨_, by simp only [sliceA, hu, sliceD, hs, bnd2 h1 h2, sliceOpen]; rfl, hb.part h1 h2 rfl _ _⟩
    | some c => exact ⟨_, by simp only [sliceA, hu, sliceD, hs, bnd2 h1 (Nat.le_trans h2 hr), sliceShut]; rfl, hb.part h1 h2 rfl _ _⟩
theorem sl_lo {lo : Nat} (hu : P.underlying ty = some (.slice e)) (hs : sizeT P e = some 1) (hb : BytP h a t) (hr : RoomA a) (h1 : lo ≤ t.length) (hp : 0 < t.length) :
    ∃ a', sliceA P ty a (some (.int .i64 (lo : Int))) none none = some a' ∧ BytP h a' (t.drop lo) ∧ RoomA a' := by
  have ht : (t.drop lo).take (t.length - lo) = t.drop lo := List.take_of_length_le (by simp)
  rcases hb.2 with ⟨_, rfl⟩ | ⟨b, o, eo, cap, rfl, r⟩
  · simp at hp
  · have hq := fun eo' cap' => hb.part h1 (Nat.le_refl _) rfl eo' cap'
    rw [ht] at hq
    cases cap with
    | none => refine ⟨_, by simp only [sliceA, hu, sliceD, hs, bndL h1 (Nat.le_refl _), sliceOpen]; rfl, hq _ _, ?_⟩; trivial
    | some c => refine ⟨_, by simp only [sliceA, hu, sliceD, hs, bndL h1 (show t.length ≤ c from hr), sliceShut]; rfl, hq _ _, ?_⟩; (show t.length - lo ≤ c - lo); have : t.length ≤ c := hr; omega
theorem sl_him {hi : Nat} (hu : P.underlying ty = some (.slice e)) (hs : sizeT P e = some 1) (hb : BytP h a t) (hr : RoomA a) (h2 : hi ≤ t.length) (hp : 0 < t.length) :
    ∃ a', sliceA P ty a none (some (.int .i64 (hi : Int))) (some (.int .i64 (hi : Int))) = some a' ∧ BytP h a' (t.take hi) := by
  rcases hb.2 with ⟨_, rfl⟩ | ⟨b, o, eo, cap, rfl, r⟩
  · simp at hp
  · have hq := fun eo' cap' => hb.part (Nat.zero_le hi) h2 rfl eo' cap'
    simp only [List.drop_zero, Nat.sub_zero] at hq
    cases cap with
    | none => exact ⟨_, by simp only [sliceA, hu, sliceD, hs, bndM (Nat.le_refl _) h2, sliceOpen]; rfl, hq _ _⟩
    | some c => exact ⟨_, by simp only [sliceA, hu, sliceD, hs, bndM (Nat.le_refl _) (Nat.le_trans h2 (show t.length ≤ c from hr)), sliceShut]; rfl, hq _ _⟩
/-- a byte -/
theorem B_at {F : Nat} (hw : Wf ⟨h, F⟩) (hb : BytP h a t) (hs : SameH h h1) {i : Nat} {c : UInt8} (hi : t[i]? = some c) : ∃ b o eo cap, a = .slice b o eo t.length cap ∧ b < ky F 0 ∧ rdAB (hget h1 b) (o + i * 1) 1 = some [.int .u8 (c.toNat : Int)] := by
  have hil := (List.getElem?_eq_some_iff.1 hi).1
  rcases hb.2 with ⟨_, rfl⟩ | ⟨b, o, eo, cap, rfl, r⟩
  · simp at hil
  · have h1 := rdAB_part r (k := i) (j := 1) (by omega)
    have h2 : ((byCells t).drop i).take 1 = [.int .u8 (c.toNat : Int)] := by
      rw [List.drop_eq_getElem_cons (by rw [byCells_len]; exact hil)]
      have : (byCells t)[i]'(by rw [byCells_len]; exact hil) = .int .u8 (c.toNat : Int) := by
        have : (byCells t)[i]? = some (.int .u8 (c.toNat : Int)) := by rw [byCells, List.getElem?_map, hi]; rfl
        rw [List.getElem?_eq_getElem (by rw [byCells_len]; exact hil)] at this
        exact Option.some.inj this
      rw [this]; rfl
    rw [h2] at h1
    rw [Nat.mul_one]
    exact ⟨b, o, eo, cap, rfl, rd_low hw h1, hs.rd h1⟩
end
/-! ### the shelf's Count and Index, at one byte -/
def CntC (P : Program) (f : FuncId) (R : List UInt8 → UInt8 → Int) : Prop := ∀ (p : Option Addr) (n c b2 o2 d : Nat) (xs : List Int) (cv : Int) (w : World), xs.length = n → ((p = none ∧ n = 0 ∧ c = 0) ∨ ∃ a, p = some a ∧ ∀ i, i < n → w.cell? (a.add i) = some (.int .u8 (xs.getD i 0))) →
  w.cell? ⟨b2, o2, none⟩ = some (.int .u8 cv) → Calls P f #[.slice p n c, .slice (some ⟨b2, o2, none⟩) 1 d] w fun e w' => e = .returned (.int .i64 (R (Lib.bytesOf xs) cv.toNat.toUInt8)) ∧ w' = w
theorem rvs_by {ρ : Map} : ∀ {t : Tx} {vs : List Value}, RVs ρ (byCells t) vs → vs = t.map fun c => Value.int .u8 (c.toNat : Int)
  | [], vs, h => by simpa [byCells, RVs] using h
  | c :: t, vs, h => by
    simp only [byCells, List.map_cons, RVs] at h
    obtain ⟨v, r, h1, h2, rfl⟩ := h
    simp only [RV] at h1
    rw [h1, rvs_by h2]
    rfl
theorem bytesOf_nat (t : Tx) : Lib.bytesOf (t.map fun c => ((c.toNat : Nat) : Int)) = t := by
  unfold Lib.bytesOf
  rw [List.map_map]
  conv => rhs; rw [← List.map_id t]
  apply List.map_congr_left
  intro c _
  simp
theorem snd_cnt (hn : NoNum P) {f : FuncId} {fn : Func} {c : Code} (hf : P.funcs[f]? = some fn) (hb : fn.body = some c) {R : List UInt8 → UInt8 → Int} (hc : CntC P f R) {h : Heap} {F k tg : Nat} {a : AV} {t : Tx} {ch : UInt8} {cap : Option Nat} (hl : BytP h a t) (hg : hget h k = some (mkRowT tg [.int .u8 (ch.toNat : Int)] 1)) :
    Snd P G f [a, .slice k 0 0 1 cap] ⟨h, F⟩ [.val (.int .i64 (R t ch)) ⟨h, F⟩] := by
  refine snd_below hn hf hb (u := .int .i64 (R t ch)) (fun ρ => rfl) ?_
  rintro base ρ w vs ⟨u1, us, r1, ⟨u2, us2, r2, r3, rfl⟩, rfl⟩ rm
  simp only [RVs] at r3
  subst r3
  -- the separator
  obtain ⟨b2, o2, d, rfl, hc2⟩ : ∃ b2 o2 d, u2 = .slice (some ⟨b2, o2, none⟩) 1 d ∧ w.cell? ⟨b2, o2, none⟩ = some (.int .u8 (ch.toNat : Int)) := by
    have hr : readCells h k 0 1 = some [.int .u8 (ch.toNat : Int)] := by rw [readCells_eq, hg, rdAB_rowT, rdAB_row]; rfl
    have key : ∀ e : Ent, ρ k = some e → w.cell? ⟨e.b, e.o, none⟩ = some (.int .u8 (ch.toNat : Int)) := fun e he => by
      obtain ⟨_, vs, rs, hs⟩ := readCells_rv rm.rh hr he
      simp only [RVs, RV] at rs
      obtain ⟨v, vs', rfl, rfl, rfl⟩ := rs
      have := hs 0 _ rfl
      rw [add_none] at this
      exact this
    cases cap with
    | some cp =>
      obtain ⟨e, he, o', q1, q2, rfl⟩ := r2
      have : o' = 0 := q2 (by omega)
      subst this
      exact ⟨_, _, _, rfl, key e he⟩
    | none =>
      obtain ⟨e, he, o', q1, q2, rfl⟩ := r2
      have : o' = 0 := q2 (by omega)
      subst this
      exact ⟨_, _, _, rfl, key e he⟩
  have hch : ((ch.toNat : Nat) : Int).toNat.toUInt8 = ch := by simp
  have go : ∀ (p : Option Addr) (cc : Nat), ((p = none ∧ t.length = 0 ∧ cc = 0) ∨ ∃ a, p = some a ∧ ∀ i, i < t.length → w.cell? (a.add i) = some (.int .u8 ((t.map fun c => ((c.toNat : Nat) : Int)).getD i 0))) →
      Calls P f #[.slice p t.length cc, .slice (some ⟨b2, o2, none⟩) 1 d] w fun e w' => e = .returned (.int .i64 (R t ch)) ∧ Below w.heap.size w w' := fun p cc hp => by
    have := hc p t.length cc b2 o2 d (t.map fun c => ((c.toNat : Nat) : Int)) (ch.toNat : Int) w (by simp) hp hc2
    rw [bytesOf_nat, hch] at this
    refine Calls.mono this ?_
    rintro e w' ⟨h1, rfl⟩
    exact ⟨h1, Below.refl _ _⟩
  rcases hl.2 with ⟨rfl | rfl, rfl⟩ | ⟨b, o, eo, cap', rfl, hr⟩
  · simp only [RV] at r1
    subst r1
    exact go none 0 (.inl ⟨rfl, rfl, rfl⟩)
  · obtain ⟨ad, rfl⟩ := r1
    exact go (some ad) 0 (.inr ⟨ad, rfl, fun i hi => absurd hi (Nat.not_lt_zero _)⟩)
  · rw [← readCells_eq] at hr
    have key : ∀ (e : Ent) (o' : Nat), ρ b = some e → (0 < t.length → o' = o) → ∀ i, i < t.length → w.cell? ((⟨e.b, e.o + o', none⟩ : Addr).add i) = some (.int .u8 ((t.map fun c => ((c.toNat : Nat) : Int)).getD i 0)) := fun e o' he ho i hi => by
      obtain ⟨_, vs, rs, hs⟩ := readCells_rv rm.rh hr he
      have hvs := rvs_by rs
      subst hvs
      rw [ho (by omega)]
      refine hs i _ ?_
      simp [hi]
    cases cap' with
    | some cp =>
      obtain ⟨e, he, o', q1, q2, rfl⟩ := r1
      exact go _ _ (.inr ⟨_, rfl, key e o' he fun hp => q2 (by omega)⟩)
    | none =>
      obtain ⟨e, he, o', q1, q2, rfl⟩ := r1
      exact go _ _ (.inr ⟨_, rfl, key e o' he fun hp => q2 (by omega)⟩)
/-! ### a list of slices of bytes, in the frames between A and B -/
def PcI (A B : Nat) (h : Heap) (a : AV) (ps : List Tx) : Prop := ∃ X : List AV, LstI A B h [.l] a (X.map fun x => [x]) ∧ X.length = ps.length ∧ ∀ (i : Nat) (x : AV) (t : Tx), X[i]? = some x → ps[i]? = some t → BytP h x t
section
variable {A B : Nat} {h h1 : Heap} {a : AV} {ps : List Tx}
theorem PcI.move (hp : PcI A B h a ps) (he : EqI A B h h1) (hs : SameH h h1) : PcI A B h1 a ps := by
  obtain ⟨X, x1, x2, x3⟩ := hp
  exact ⟨X, x1.move he, x2, fun i x t h1 h2 => (x3 i x t h1 h2).same hs⟩
theorem PcI.wide {A' B' : Nat} (hp : PcI A B h a ps) (hA : A' ≤ A) (hB : B ≤ B') : PcI A' B' h a ps := by
  obtain ⟨X, x1, x2, x3⟩ := hp
  exact ⟨X, x1.wide hA hB, x2, x3⟩
theorem rLen1_PcI {t e : TypeId} {h2 : Heap} (hu : P.underlying t = some (.slice e)) (hp : PcI A B h a ps) : rLen1 P h2 t (some a) = some (.int .i64 (ps.length : Int)) := by
  obtain ⟨X, x1, x2, x3⟩ := hp
  rw [rLen1_L hu x1.p, List.length_map, x2]
theorem PcI.at (hp : PcI A B h a ps) {i : Nat} {t : Tx} (hi : ps[i]? = some t) : ∃ b o eo cap x, a = .slice b o eo ps.length cap ∧ ky A 0 ≤ b ∧ b < ky B 0 ∧ rdAB (hget h b) (o + i * 1) 1 = some [x] ∧ BytP h x t := by
  obtain ⟨X, x1, x2, x3⟩ := hp
  have hil := (List.getElem?_eq_some_iff.1 hi).1
  have hxl : i < (X.map fun x => [x]).length := by rw [List.length_map]; omega
  obtain ⟨b, o, eo, cap, e, h3, h4, h5, _⟩ := x1.at hxl
  have hX : X[i]? = some X[i] := by simp [show i < X.length by omega]
  refine ⟨b, o, eo, cap, X[i], by rw [e, List.length_map, x2], h3, h4, ?_, x3 i _ t hX hi⟩
  rw [List.getElem_map] at h5
  exact h5
end
end Go.Ai

/-! Where two replicas differ first; sums. -/
namespace Go.Ai
open Go
noncomputable def resZ (X : List (List AV)) (Y : List (List (List AV))) : List (List AV × List (List AV)) := List.zip (X.map (·.take 4)) Y
noncomputable def fstR (X X2 : List (List AV)) (Y Y2 : List (List (List AV))) : Nat := fd (resZ X Y) (resZ X2 Y2)
noncomputable def firstI (X X2 : List (List AV)) (Y Y2 : List (List (List AV))) : Int :=
  if fstR X X2 Y Y2 < min X.length X2.length ∨ X.length ≠ X2.length then (fstR X X2 Y Y2 : Int) else -1
def seqAt (X : List (List AV)) (i : Nat) : Int := match X[i]? with
  | some (.int _ q :: _) => q
  | _ => 0
noncomputable def seqI (X X2 : List (List AV)) (i : Nat) : Int := if i < min X.length X2.length then seqAt X i else (i : Int)
structure Dif where
  kind : Int
  seq : Int
  line : Int
  ok : Bool
noncomputable def difV (e1 e2 : Int) (A B : Tx) (X X2 : List (List AV)) (Y Y2 : List (List (List AV))) : Dif := open Classical in
  if e1 ≠ e2 then ⟨1, min e1 e2, 0, true⟩
  else if 0 ≤ firstI X X2 Y Y2 then ⟨2, seqI X X2 (fstR X X2 Y Y2), 0, true⟩
  else if A = B then ⟨0, 0, 0, false⟩
  else ⟨3, 0, (fd (lnL A) (lnL B) : Int), true⟩
def difA (d : Dif) : AV := .tup [.agg [.int .i64 d.kind, .int .i64 d.seq, .int .i64 d.line], .bool d.ok]
noncomputable def sumT (e : Int) (A : Tx) (X : List (List AV)) (Y : List (List (List AV))) : Tx := Lib.itoa e ++ [10] ++ A ++ tabT X Y
section
variable {X X2 : List (List AV)} {Y Y2 : List (List (List AV))}
theorem resZ_len (h : Y.length = X.length) : (resZ X Y).length = X.length := by simp [resZ, h]
theorem resZ_at {i : Nat} {x : List AV} {l : List (List AV)} (h1 : X[i]? = some x) (h2 : Y[i]? = some l) : (resZ X Y)[i]? = some (x.take 4, l) := by
  unfold resZ
  rw [List.getElem?_zip_eq_some]
  exact ⟨by simp [h1], by simpa using h2⟩
theorem fstR_comm : fstR X X2 Y Y2 = fstR X2 X Y2 Y := fd_comm _ _
theorem firstI_comm : firstI X X2 Y Y2 = firstI X2 X Y2 Y := by
  unfold firstI
  rw [fstR_comm, Nat.min_comm]
  by_cases h : X.length = X2.length
  · simp [h]
  · simp [h, show ¬ X2.length = X.length from fun e => h e.symm]
theorem fstR_le (h : Y.length = X.length) (h2 : Y2.length = X2.length) : fstR X X2 Y Y2 ≤ min X.length X2.length := by
  have h3 := fd_le (resZ X Y) (resZ X2 Y2)
  have h4 := fd_le' (resZ X Y) (resZ X2 Y2)
  rw [resZ_len h] at h3
  rw [resZ_len h2] at h4
  unfold fstR
  omega
theorem fstR_is {n : Nat} (h : Y.length = X.length) (h2 : Y2.length = X2.length) (h3 : n ≤ X.length) (h4 : n ≤ X2.length) (h5 : ∀ j : Nat, j < n → (resZ X Y)[j]? = (resZ X2 Y2)[j]?) (h6 : n = X.length ∨ n = X2.length ∨ (resZ X Y)[n]? ≠ (resZ X2 Y2)[n]?) : fstR X X2 Y Y2 = n :=
  fd_is n _ _ (by rw [resZ_len h]; exact h3) (by rw [resZ_len h2]; exact h4) h5 (by rw [resZ_len h, resZ_len h2]; exact h6)
theorem firstI_neg (h : Y.length = X.length) (h2 : Y2.length = X2.length) (hn : ¬ 0 ≤ firstI X X2 Y Y2) : X.length = X2.length ∧ resZ X Y = resZ X2 Y2 := by
  unfold firstI at hn
  split at hn
  · omega
  · rename_i hc
    have hl : X.length = X2.length := Classical.byContradiction fun e => hc (.inr e)
    have := fstR_le h h2
    have h3 : fstR X X2 Y Y2 = X.length := by
      have : ¬ fstR X X2 Y Y2 < min X.length X2.length := fun e => hc (.inl e)
      omega
    exact ⟨hl, fd_eq (by rw [resZ_len h]; exact h3) (by rw [resZ_len h, resZ_len h2]; exact hl)⟩
theorem firstI_pos (hn : 0 ≤ firstI X X2 Y Y2) : firstI X X2 Y Y2 = (fstR X X2 Y Y2 : Int) ∧ (fstR X X2 Y Y2 < min X.length X2.length ∨ X.length ≠ X2.length) := by
  unfold firstI at hn ⊢
  split
  · rename_i h; exact ⟨rfl, h⟩
  · rename_i h; rw [if_neg h] at hn; omega
theorem tabT_of : ∀ {X X2 : List (List AV)} {Y Y2 : List (List (List AV))}, (∀ x ∈ X, cksOk ksR x) → (∀ x ∈ X2, cksOk ksR x) → Y.length = X.length → Y2.length = X2.length → resZ X Y = resZ X2 Y2 → tabT X Y = tabT X2 Y2
  | [], [], _, _, _, _, _, _, _ => by simp [tabT]
  | [], x :: X, Y, [], _, _, _, h2, _ => by simp at h2
  | [], x :: X, [], l :: Y2, _, _, _, _, h => by simp [resZ] at h
  | [], x :: X, y :: Y, l :: Y2, _, _, h1, _, h => by simp at h1
  | x :: X, [], [], Y2, _, _, h1, _, h => by simp at h1
  | x :: X, [], y :: Y, Y2, _, _, h1, _, h => by simp [resZ] at h
  | x :: X, x2 :: X2, [], Y2, _, _, h1, _, _ => by simp at h1
  | x :: X, x2 :: X2, y :: Y, [], _, _, _, h2, _ => by simp at h2
  | x :: X, x2 :: X2, y :: Y, y2 :: Y2, a1, a2, h1, h2, h => by
    simp only [resZ, List.map_cons, List.zip_cons_cons, List.cons.injEq, Prod.mk.injEq] at h
    obtain ⟨⟨e1, rfl⟩, e2⟩ := h
    have ih := tabT_of (X := X) (X2 := X2) (Y := Y) (Y2 := Y2) (fun x hx => a1 x (List.mem_cons_of_mem _ hx)) (fun x hx => a2 x (List.mem_cons_of_mem _ hx)) (by simpa using h1) (by simpa using h2) e2
    obtain ⟨q, k, c, p, o, rfl, _⟩ := cks_R (a1 x List.mem_cons_self)
    obtain ⟨q', k', c', p', o', rfl, _⟩ := cks_R (a2 x2 List.mem_cons_self)
    simp at e1
    obtain ⟨rfl, rfl, rfl, rfl⟩ := e1
    unfold tabT at ih ⊢
    simp only [List.zipWith_cons_cons, List.flatten_cons, ih]
    rfl
theorem difV_sym {e1 e2 : Int} {A B : Tx} : (difV e2 e1 B A X2 X Y2 Y).kind = (difV e1 e2 A B X X2 Y Y2).kind ∧ (difV e2 e1 B A X2 X Y2 Y).ok = (difV e1 e2 A B X X2 Y Y2).ok := by
  unfold difV
  rw [firstI_comm (X := X2)]
  by_cases h1 : e1 = e2
  · subst h1
    by_cases h2 : 0 ≤ firstI X X2 Y Y2
    · simp [h2]
    · by_cases h3 : A = B
      · subst h3; simp [h2]
      · simp [h2, h3, Ne.symm h3, show ¬ B = A from fun e => h3 e.symm]
  · simp [h1, show ¬ e2 = e1 from fun e => h1 e.symm]
theorem difV_no {e1 e2 : Int} {A B : Tx} (h : (difV e1 e2 A B X X2 Y Y2).ok = false) : e1 = e2 ∧ ¬ 0 ≤ firstI X X2 Y Y2 ∧ A = B := by
  unfold difV at h
  split at h
  · cases h
  · rename_i h1
    split at h
    · cases h
    · rename_i h2
      split at h
      · rename_i h3; exact ⟨Classical.byContradiction fun e => h1 e, h2, h3⟩
      · cases h
theorem dif_sum {e1 e2 : Int} {A B : Tx} (a1 : ∀ x ∈ X, cksOk ksR x) (a2 : ∀ x ∈ X2, cksOk ksR x) (h1 : Y.length = X.length) (h2 : Y2.length = X2.length) (h : (difV e1 e2 A B X X2 Y Y2).ok = false) : sumT e1 A X Y = sumT e2 B X2 Y2 := by
  obtain ⟨rfl, h3, rfl⟩ := difV_no h
  unfold sumT
  rw [tabT_of a1 a2 h1 h2 (firstI_neg h1 h2 h3).2]
end
end Go.Ai

namespace Go.Proofs.YtfhgiadogeephaaGreatDoor
open Go Go.Ai
set_option maxRecDepth 100000

noncomputable def wordsC : List AV := [.str (wordL 0), .str (wordL 1), .str (wordL 2), .str (wordL 3), .str (wordL 4), .str (wordL 5), .str (wordL 6)]
noncomputable def GL : Glob := [(0, wordsC), (3, tabA .u64 Lib.pow10Tab)]
noncomputable def codeV (k n : Int) (t : List UInt8) : Int := open Classical in if vOk k n t then 0 else 20
noncomputable def txtOf (h : Heap) (a : AV) : Option (List (List UInt8)) := match lstOf h ksT a with
  | some L => some (L.map fun l => match l with
    | [.str s] => s
    | _ => [])
  | none => none
theorem txtOf_eq {h : Heap} {a : AV} {ss : List (List UInt8)} (hl : LstP h ksT a (tL ss)) : txtOf h a = some ss := by
  unfold txtOf
  rw [lstOf_eq hl]
  simp only [tL, List.map_map, Option.some.injEq]
  exact List.map_id' _
noncomputable def spDg : List AV → St → Option AV
  | [.int _ z], _ => some (.str (Lib.decDigits z.toNat))
  | _, _ => none
noncomputable def spIt : List AV → St → Option AV
  | [.int _ z], _ => some (.str (Lib.itoa z))
  | _, _ => none
noncomputable def spFm : List AV → St → Option AV
  | [.int _ z, _], _ => some (.str (Lib.itoa z))
  | _, _ => none
noncomputable def spWd : List AV → St → Option AV
  | [.int _ z], _ => some (.str (wordL z))
  | _, _ => none
noncomputable def spVd : List AV → St → Option AV
  | [.agg [.int _ k, .int _ n, .str t]], _ => some (.bool (dec (vOk k n t)))
  | _, _ => none
noncomputable def spPr : List AV → St → Option AV
  | [.agg [.int _ k, .int _ n, .str t]], _ => some (.tup [.str (printV k n t), .int .i64 (codeV k n t)])
  | _, _ => none
noncomputable def spEq : List AV → St → Option AV
  | [a, b], s => match lstOf s.h ksV a, lstOf s.h ksV b with
    | some L, some M => some (.bool (dec (L = M)))
    | _, _ => none
  | _, _ => none
noncomputable def spSm : List AV → St → Option AV
  | [.agg [.int _ q, .int _ k, .int _ c, .int _ p, a], .agg [.int _ q2, .int _ k2, .int _ c2, .int _ p2, b]], s => match lstOf s.h ksV a, lstOf s.h ksV b with
    | some L, some M => some (.bool (dec (q = q2 ∧ k = k2 ∧ c = c2 ∧ p = p2 ∧ L = M)))
    | _, _ => none
  | _, _ => none
noncomputable def spAl : List AV → St → Option AV
  | [a, b], s => match rowsOf s.h ksR 4 ksV a, rowsOf s.h ksR 4 ksV b with
    | some (X, Y), some (X2, Y2) => some (.bool (dec (resAll X X2 Y Y2)))
    | _, _ => none
  | _, _ => none
noncomputable def spEf : List AV → St → Option AV
  | [a, b, .fn _ _ _], s => match rowsOf s.h ksR 4 ksV a, rowsOf s.h ksR 4 ksV b with
    | some (X, Y), some (X2, Y2) => some (.bool (dec (resAll X X2 Y Y2)))
    | _, _ => none
  | _, _ => none
noncomputable def spRp : List AV → St → Option AV
  | [.agg [.int _ q, .int _ k, .int _ c, .int _ p, a]], s => match lstOf s.h ksV a with
    | some L => some (.str (printR q k c p L))
    | none => none
  | _, _ => none
noncomputable def spTb : List AV → St → Option AV
  | [a], s => match rowsOf s.h ksR 4 ksV a with
    | some (X, Y) => some (.str (tabT X Y))
    | none => none
  | _, _ => none
noncomputable def spJn : List AV → St → Option AV
  | [a, .str sep], s => match txtOf s.h a with
    | some ss => some (.str (Lib.join ss sep))
    | none => none
  | _, _ => none
noncomputable def spBe : List AV → St → Option AV
  | [a, b], s => match bytO s.h a, bytO s.h b with
    | some t, some u => some (.bool (dec (t = u)))
    | _, _ => none
  | _, _ => none
noncomputable def spCt : List AV → St → Option AV
  | [a, .slice k _ _ _ _], s => match bytO s.h a, rdAB (hget s.h k) 0 1 with
    | some t, some [.int _ c] => some (.int .i64 (Lib.countByte t c.toNat.toUInt8 : Int))
    | _, _ => none
  | _, _ => none
noncomputable def spIx : List AV → St → Option AV
  | [a, .slice k _ _ _ _], s => match bytO s.h a, rdAB (hget s.h k) 0 1 with
    | some t, some [.int _ c] => some (.int .i64 (Lib.indexByte t c.toNat.toUInt8))
    | _, _ => none
  | _, _ => none
noncomputable def spFr : List AV → St → Option AV
  | [a, b], s => match rowsOf s.h ksR 4 ksV a, rowsOf s.h ksR 4 ksV b with
    | some (X, Y), some (X2, Y2) => some (.int .i64 (firstI X X2 Y Y2))
    | _, _ => none
  | _, _ => none
noncomputable def spDf : List AV → St → Option AV
  | [.agg [.int _ e1, sa, ra, _], .agg [.int _ e2, sb, rb, _]], s => match bytO s.h sa, bytO s.h sb, rowsOf s.h ksR 4 ksV ra, rowsOf s.h ksR 4 ksV rb with
    | some A, some B, some (X, Y), some (X2, Y2) => some (difA (difV e1 e2 A B X X2 Y Y2))
    | _, _, _, _ => none
  | _, _ => none
noncomputable def spSu : List AV → St → Option AV
  | [.agg [.int _ e1, sa, ra, _]], s => match bytO s.h sa, rowsOf s.h ksR 4 ksV ra with
    | some A, some (X, Y) => some (.int .u64 (hashI (sumT e1 A X Y)))
    | _, _ => none
  | _, _ => none
noncomputable def spHs : List AV → St → Option AV
  | [.str t], _ => some (.int .u64 (hashI t))
  | _, _ => none
noncomputable def spLv : List AV → St → Option AV
  | [], _ => some (.bool true)
  | _, _ => none
noncomputable def spT : FuncId → List AV → St → Option AV := fun f args s => match Nat.beq f 64 with
  | true => spDg args s
  | false => match Nat.beq f 30 with
  | true => spIt args s
  | false => match Nat.beq f 27 with
  | true => spIt args s
  | false => match Nat.beq f 59 with
  | true => spFm args s
  | false => match Nat.beq f 112 with
  | true => spWd args s
  | false => match Nat.beq f 114 with
  | true => spWd args s
  | false => match Nat.beq f 154 with
  | true => spVd args s
  | false => match Nat.beq f 167 with
  | true => spVd args s
  | false => match Nat.beq f 101 with
  | true => spPr args s
  | false => match Nat.beq f 115 with
  | true => spPr args s
  | false => match Nat.beq f 108 with
  | true => spEq args s
  | false => match Nat.beq f 58 with
  | true => spEq args s
  | false => match Nat.beq f 107 with
  | true => spSm args s
  | false => match Nat.beq f 24 with
  | true => spSm args s
  | false => match Nat.beq f 56 with
  | true => spAl args s
  | false => match Nat.beq f 106 with
  | true => spEf args s
  | false => match Nat.beq f 61 with
  | true => spRp args s
  | false => match Nat.beq f 65 with
  | true => spRp args s
  | false => match Nat.beq f 28 with
  | true => spTb args s
  | false => match Nat.beq f 31 with
  | true => spTb args s
  | false => match Nat.beq f 113 with
  | true => spJn args s
  | false => match Nat.beq f 22 with
  | true => spBe args s
  | false => match Nat.beq f 159 with
  | true => spCt args s
  | false => match Nat.beq f 160 with
  | true => spIx args s
  | false => match Nat.beq f 21 with
  | true => spFr args s
  | false => match Nat.beq f 6 with
  | true => spDf args s
  | false => match Nat.beq f 7 with
  | true => spDf args s
  | false => match Nat.beq f 8 with
  | true => spSu args s
  | false => match Nat.beq f 9 with
  | true => spSu args s
  | false => match Nat.beq f 26 with
  | true => spHs args s
  | false => match Nat.beq f 29 with
  | true => spHs args s
  | false => match Nat.beq f 5 with
  | true => spLv args s
  | false => none
/-- what is said of the calls that write (A: the first frame in which the builder's bytes may lie) -/
def ST (A : Nat) : FuncId → List AV → St → Out → Prop
  | 111, [.ptr b 0], s, o => ∀ p buf, hget s.h b = some (bRowT 139 p buf) → (p = .nilp ∨ p = .ptr b 0) → ∃ h', o = .val (.tup []) ⟨h', s.fc⟩ ∧ hget h' b = some (bRowT 139 (.ptr b 0) buf) ∧ ∀ i, i ≠ b → hget h' i = hget s.h i
  | 60, [.ptr b 0, .str x], s, o => ∀ l B, Bld Tryz.prog s.h 139 5 b A B l → ∃ h', o = .val (.tup [.int .i64 (x.length : Int), .nili]) ⟨h', s.fc + 1⟩ ∧ Bld Tryz.prog h' 139 5 b A (s.fc + 1) (l ++ x) ∧ But b A (s.fc + 1) s.h h'
  | 62, [.ptr b 0, .int .u8 c], s, o => ∀ l B, Bld Tryz.prog s.h 139 5 b A B l → ∃ h', o = .val .nili ⟨h', s.fc + 1⟩ ∧ Bld Tryz.prog h' 139 5 b A (s.fc + 1) (l ++ [UInt8.ofNat c.toNat]) ∧ But b A (s.fc + 1) s.h h'
  | 63, [.ptr b 0], s, o => ∀ l B, Bld Tryz.prog s.h 139 5 b A B l → ∃ h', o = .val (.str l) ⟨h', s.fc + 1⟩ ∧ Low A s.h h'
  | _, _, _, _ => True
noncomputable def KT (S : FuncId → List AV → St → Out → Prop) : CallF := KC Tryz.prog GL spT S
def S0 : FuncId → List AV → St → Out → Prop := fun _ _ _ _ => True
theorem kt_ok {S : FuncId → List AV → St → Out → Prop} : KOK Tryz.prog GL (KT S) := kc_ok
theorem kt_fn {S : FuncId → List AV → St → Out → Prop} {f : FuncId} {args : List AV} {s : St} {v : AV} (hs : spT f args s = some v) (h : Snd Tryz.prog GL f args s [.val v s]) : CallF.fn (KT S) f args s = some [.val v s] := kc_hit hs h
section
variable {S : FuncId → List AV → St → Out → Prop}
/-! ### numbers -/
theorem itoa_nat (n : Nat) : Lib.itoa (n : Int) = Lib.decDigits n := by unfold Lib.itoa; rw [if_neg (by omega)]; rfl
theorem strOp_add {a b : List UInt8} (h : a.length + b.length < 4611686018427387904) : strOp .add a b = some (.str (a ++ b)) := by
  have : Nat.blt (a.length + b.length) 4611686018427387904 = true := by rw [Nat.blt_eq]; exact h
  simp only [strOp, this]
theorem pUn_neg {n : Int} (h : in64 (-n)) : pUn Tryz.prog .neg (some (.int .i64 n)) = some (.int .i64 (-n)) := by
  have e : IntKind.i64.wrap (-n) = -n := by
    have : IntKind.i64.wrap (-n) = if (-n) % 18446744073709551616 ≥ 9223372036854775808 then (-n) % 18446744073709551616 - 18446744073709551616 else (-n) % 18446744073709551616 := by simp [IntKind.wrap, IntKind.bits, IntKind.signed]
    rw [this]
    unfold in64 at h
    split <;> omega
  simp [pUn, pUn2, toS, Op.unary, Op.intArith, runP, ofS, pure, e]
set_option maxHeartbeats 1000000 in
theorem digits1 (h : Heap) (F : Nat) (N : Nat) (hN : N < 18446744073709551616) : Snd Tryz.prog GL 64 [.int .u64 (N : Int)] ⟨h, F⟩ [.val (.str (Lib.decDigits N)) ⟨h, F⟩] := by
  refine snd_val (by simp [Kin]) fun hw => ?_
  have fct : ∀ n : Nat, n < 18446744073709551616 → intOp Tryz.prog .rem 34 .u64 .u64 (n : Int) 10 = some (.int .u64 ((n % 10 : Nat) : Int)) ∧ intOp Tryz.prog .quo 34 .u64 .u64 (n : Int) 10 = some (.int .u64 ((n / 10 : Nat) : Int)) := fun n hn => And.intro (u64_rem (P := Tryz.prog) (t := 34) (a := n) (b := 10) (by decide)) (u64_quo (P := Tryz.prog) (t := 34) (a := n) (b := 10) (by decide) hn)
  have cv1 := fun (h : Heap) (n : Nat) => rCv_in (P := Tryz.prog) (h := h) (src := 34) (dst := 3) (k' := .u64) (n := ((n % 10 : Nat) : Int)) Tryz.underlying3 Tryz.underlying34 (wrapI_nat (by omega))
  have cv2 := fun (h : Heap) (n : Nat) => rCv_in (P := Tryz.prog) (h := h) (src := 3) (dst := 21) (k' := .i64) (n := (48 : Int) + ((n % 10 : Nat) : Int)) Tryz.underlying21 Tryz.underlying3 (wrapI32_in (by omega) (by omega))
  have cv3 := fun (h : Heap) (n : Nat) => (rCv_chr (P := Tryz.prog) (h := h) (src := 21) (dst := 9) (k := .i32) (n := (48 : Int) + ((n % 10 : Nat) : Int)) Tryz.underlying9 Tryz.underlying21).trans (by rw [chr_dig (by omega)])
  have ad := fun (n : Nat) => intOp_add (P := Tryz.prog) (t := 3) (a := 48) (b := ((n % 10 : Nat) : Int)) (by unfold inR; omega)
  obtain ⟨r0, _⟩ := fct N hN
  refine sndQ_body (K := (KT S0)) kt_ok mixed noNum (m := 100) Tryz.func64 ?_
  generalize hQ : retQ _ _ _ _ _ _ = Q0
  refine body_go (c := Tryz.f64.body.getD .skip) (n := 23) rfl rfl (by simp only [↓reduceIte, T.setList, T.set_e] <;> rfl) ?_
  simp only [Tryz.f64, Option.getD_some]
  repeat' (first | with_reducible (first | refine r_seq ?_ | refine r_next ?_ | refine r_block ?_ | refine r_seq_exit ?_ | refine r_seq_ret ?_ | refine r_blk_n ?_ | refine r_blk_ret ?_ | refine r_blk_hit ?_ | refine r_blk_miss rfl ?_ | refine r_skip ?_ | refine r_exit ?_ | refine r_ret ?_ | refine r_rq_exit ?_ | refine r_rq_ret ?_) | ((with_reducible apply r_regA); (focus (exact sd2)); (focus (exact sd1))) | ((with_reducible refine r_reg (List.toList_toArray) ?_ ?_); focus (exact sd1)) | ((with_reducible apply r_end); focus (exact sd4)) | ((with_reducible (first | apply r_move | apply r_assign)); (focus (exact sd3)); (focus (exact sd7))) | ((with_reducible apply r_condT); (focus (exact sd3))) | ((with_reducible (first | apply r_any | apply r_cond)); focus (simp only [↓reduceIte, clsOf, Fr.ev, ofV, ofA, ofS, put_mk, pureOp, readOp, pBin, binA, Nat.reduceLT, Nat.reduceEqDiff, Nat.reduceSub, binA, stepOp, stV_mk, T.get_n, T.set_n, T.set_e, Nat.reduceDiv, Nat.reduceMod, stepAny, wantedA_none, r0, cv1, cv2, cv3, ad] <;> rfl)) | (with_reducible rw [ifQ_t]) | (with_reducible rw [ifQ_f]) | (with_reducible refine ifQ_intro ?_ ?_ <;> intro hb))
  have hd20 := Lib.nDigits_le20 N hN
  refine r_loop (I := fun nn fr s1 => ∃ lc tt n s, fr = ⟨F, lc, 23, tt, [], .no⟩ ∧ s1 = ⟨h, F + 1⟩ ∧ nn = Lib.nDigits n ∧ n ≤ N ∧ lc + nn * 1000 ≤ 100000000000000000000000000 ∧ tt.get 0 = some (.int .u64 (n : Int)) ∧ tt.get 3 = some (.str s) ∧ digI N n s) (n := Lib.nDigits N) ?_ ?_ ?_
  · omega
  · exact ⟨_, _, N, _, rfl, rfl, rfl, Nat.le_refl _, by omega, (by first | (simp only [Tget_set, T.get_n, Nat.reduceEqDiff, ↓reduceIte] <;> rfl) | rfl), (by first | (simp only [Tget_set, ↓reduceIte] <;> rfl) | rfl), digI.init N⟩
  rintro nn fr s1 ⟨lc, tt, n, s, rfl, rfl, rfl, hn, hlc, u0, u3, hI⟩
  by_cases hn10 : 10 ≤ n
  · obtain ⟨_, q1⟩ := fct n (by omega)
    obtain ⟨q2, _⟩ := fct (n / 10) (by omega)
    have hge : decide ((10 : Int) ≤ (n : Int)) = true := decide_eq_true (by omega)
    have hln := hI.len
    rw [Lib.decDigits_length] at hln
    have hnd := Lib.nDigits_big (u := n) (by omega)
    have sc := strOp_add (a := [UInt8.ofNat (48 + n / 10 % 10)]) (b := s) (by simp only [List.length_cons, List.length_nil]; omega)
    repeat' (first | with_reducible (first | refine r_seq ?_ | refine r_next ?_ | refine r_block ?_ | refine r_seq_exit ?_ | refine r_seq_ret ?_ | refine r_blk_n ?_ | refine r_blk_ret ?_ | refine r_blk_hit ?_ | refine r_blk_miss rfl ?_ | refine r_skip ?_ | refine r_exit ?_ | refine r_ret ?_ | refine r_rq_exit ?_ | refine r_rq_ret ?_) | ((with_reducible apply r_regA); (focus (exact sd2)); (focus (exact sd1))) | ((with_reducible refine r_reg (List.toList_toArray) ?_ ?_); focus (exact sd1)) | ((with_reducible apply r_end); focus (exact sd4)) | ((with_reducible (first | apply r_move | apply r_assign)); (focus (simp only [Tget_set, Nat.reduceEqDiff, ↓reduceIte, u0, u3] <;> rfl)); (focus (exact sd7))) | ((with_reducible apply r_condT); (focus (exact sd3))) | ((with_reducible (first | apply r_any | apply r_cond)); focus (simp only [↓reduceIte, clsOf, Fr.ev, ofV, ofA, ofS, put_mk, pureOp, readOp, pBin, binA, intOp_geq, Nat.reduceLT, Nat.reduceEqDiff, binA, stepOp, stV_mk, stepAny, wantedA_none, Tget_set, hge, q1, q2, cv1, cv2, cv3, ad, sc] <;> rfl)) | (with_reducible rw [ifQ_t]) | (with_reducible rw [ifQ_f]) | (with_reducible refine ifQ_intro ?_ ?_ <;> intro hb))
    exact r_rq_n (k := Lib.nDigits (n / 10)) (by omega) ⟨_, _, n / 10, _, rfl, rfl, rfl, by omega, by omega, (by first | (simp only [Tget_set, Nat.reduceEqDiff, ↓reduceIte] <;> rfl) | rfl), (by first | (simp only [Tget_set, ↓reduceIte] <;> rfl) | rfl), hI.step hn10⟩
  · have hge : decide ((10 : Int) ≤ (n : Int)) = false := decide_eq_false (by omega)
    repeat' (first | with_reducible (first | refine r_seq ?_ | refine r_next ?_ | refine r_block ?_ | refine r_seq_exit ?_ | refine r_seq_ret ?_ | refine r_blk_n ?_ | refine r_blk_ret ?_ | refine r_blk_hit ?_ | refine r_blk_miss rfl ?_ | refine r_skip ?_ | refine r_exit ?_ | refine r_ret ?_ | refine r_rq_exit ?_ | refine r_rq_ret ?_) | ((with_reducible apply r_regA); (focus (exact sd2)); (focus (exact sd1))) | ((with_reducible refine r_reg (List.toList_toArray) ?_ ?_); focus (exact sd1)) | ((with_reducible apply r_end); focus (exact sd4)) | ((with_reducible (first | apply r_move | apply r_assign)); (focus (simp only [Tget_set, Nat.reduceEqDiff, ↓reduceIte, u0, u3] <;> rfl)); (focus (exact sd7))) | ((with_reducible apply r_condT); (focus (exact sd3))) | ((with_reducible (first | apply r_any | apply r_cond)); focus (simp only [↓reduceIte, clsOf, Fr.ev, ofV, ofA, ofS, put_mk, pureOp, pBin, binA, intOp_geq, Nat.reduceLT, binA, stepOp, stV_mk, stepAny, wantedA_none, Tget_set, hge] <;> rfl)) | (with_reducible rw [ifQ_t]) | (with_reducible rw [ifQ_f]) | (with_reducible refine ifQ_intro ?_ ?_ <;> intro hb))
    subst hQ
    refine ret_back (by simp only [Tryz.results64, resultOf, resultsA, resultA, List.toList_toArray, Fr.ev, Tget_set, ↓reduceIte] <;> rfl) ?_
    exact ⟨_, by rw [hI.done (by omega)], Same.base _ _ _⟩
theorem k_digits {h : Heap} {F N : Nat} (hN : N < 18446744073709551616) : CallF.fn (KT S) 64 [.int .u64 (N : Int)] ⟨h, F⟩ = some [.val (.str (Lib.decDigits N)) ⟨h, F⟩] := kt_fn rfl (digits1 h F N hN)
set_option maxHeartbeats 1000000 in
theorem vdigits (h : Heap) (F : Nat) (n : Int) (hn : in64 n) : Snd Tryz.prog GL 30 [.int .i64 n] ⟨h, F⟩ [.val (.str (Lib.itoa n)) ⟨h, F⟩] := by
  refine snd_val (by simp [Kin]) fun hw => ?_
  unfold in64 at hn
  by_cases h0 : 0 ≤ n
  · obtain ⟨N, rfl⟩ := Int.eq_ofNat_of_zero_le h0
    have hN : N < 18446744073709551616 := by omega
    have cv := fun (h : Heap) => rCv_in (P := Tryz.prog) (h := h) (src := 2) (dst := 34) (k' := .i64) (n := (N : Int)) Tryz.underlying34 Tryz.underlying2 (wrapU_nat hN)
    refine sndQ_body (K := (KT S0)) kt_ok mixed noNum (m := 0) Tryz.func30 ?_
    generalize hQ : retQ _ _ _ _ _ _ = Q0
    refine body_go (c := Tryz.f30.body.getD .skip) (n := 15) rfl rfl (by simp only [↓reduceIte, T.setList, T.set_e] <;> rfl) ?_
    simp only [Tryz.f30, Option.getD_some]
    repeat' (first | with_reducible (first | refine r_seq ?_ | refine r_next ?_ | refine r_block ?_ | refine r_seq_exit ?_ | refine r_seq_ret ?_ | refine r_blk_n ?_ | refine r_blk_ret ?_ | refine r_blk_hit ?_ | refine r_blk_miss rfl ?_ | refine r_skip ?_ | refine r_exit ?_ | refine r_ret ?_ | refine r_rq_exit ?_ | refine r_rq_ret ?_) | ((with_reducible apply r_regA); (focus (exact sd2)); (focus (exact sd1))) | ((with_reducible refine r_reg (List.toList_toArray) ?_ ?_); focus (exact sd1)) | ((with_reducible apply r_end); focus (exact sd4)) | ((with_reducible (first | apply r_move | apply r_assign)); (focus (exact sd3)); (focus (exact sd7))) | ((with_reducible apply r_condT); (focus (exact sd3))) | ((with_reducible (first | apply r_any | apply r_cond)); focus (simp only [↓reduceIte, clsOf, clsCall, Fr.ev, evs, ofV, ofA, ofS, put_mk, pureOp, readOp, pBin, binA, intOp_geq, Nat.reduceLT, Nat.reduceEqDiff, Nat.reduceSub, callTo_s, heavyCall, target, List.nil_append, List.append_nil, binA, stepOp, stHeavy, stV_mk, stO_mk, T.get_n, T.set_n, T.set_e, Nat.reduceDiv, Nat.reduceMod, stepAny, wantedA_none, ge_t h0, cv, k_digits hN] <;> rfl)) | (with_reducible rw [ifQ_t]) | (with_reducible rw [ifQ_f]) | (with_reducible refine ifQ_intro ?_ ?_ <;> intro hb))
    subst hQ
    refine ret_back (by simp only [Tryz.results30, resultOf, resultsA, resultA, List.toList_toArray, Fr.ev, Tget_set, ↓reduceIte] <;> rfl) ?_
    exact ⟨_, by rw [itoa_nat], Same.base _ _ _⟩
  · obtain ⟨M, hM⟩ : ∃ M : Nat, -(n + 1) = (M : Int) := ⟨(-(n + 1)).toNat, by omega⟩
    have hM1 : M + 1 < 18446744073709551616 := by omega
    have hneg := pUn_neg (n := n + 1) (by unfold in64; omega)
    rw [hM] at hneg
    have cv := fun (h : Heap) => rCv_in (P := Tryz.prog) (h := h) (src := 2) (dst := 34) (k' := .i64) (n := (M : Int)) Tryz.underlying34 Tryz.underlying2 (wrapU_nat (by omega))
    have hadd : intOp Tryz.prog .add 34 .u64 .u64 (M : Int) 1 = some (.int .u64 ((M + 1 : Nat) : Int)) := u64_add (by omega) (by omega)
    have hlen : (Lib.decDigits (M + 1)).length ≤ 20 := by rw [Lib.decDigits_length]; exact Lib.nDigits_le20 _ hM1
    have sc := strOp_add (a := [45]) (b := Lib.decDigits (M + 1)) (by simp only [List.length_cons, List.length_nil]; omega)
    refine sndQ_body (K := (KT S0)) kt_ok mixed noNum (m := 0) Tryz.func30 ?_
    generalize hQ : retQ _ _ _ _ _ _ = Q0
    refine body_go (c := Tryz.f30.body.getD .skip) (n := 15) rfl rfl (by simp only [↓reduceIte, T.setList, T.set_e] <;> rfl) ?_
    simp only [Tryz.f30, Option.getD_some]
    repeat' (first | with_reducible (first | refine r_seq ?_ | refine r_next ?_ | refine r_block ?_ | refine r_seq_exit ?_ | refine r_seq_ret ?_ | refine r_blk_n ?_ | refine r_blk_ret ?_ | refine r_blk_hit ?_ | refine r_blk_miss rfl ?_ | refine r_skip ?_ | refine r_exit ?_ | refine r_ret ?_ | refine r_rq_exit ?_ | refine r_rq_ret ?_) | ((with_reducible apply r_regA); (focus (exact sd2)); (focus (exact sd1))) | ((with_reducible refine r_reg (List.toList_toArray) ?_ ?_); focus (exact sd1)) | ((with_reducible apply r_end); focus (exact sd4)) | ((with_reducible (first | apply r_move | apply r_assign)); (focus (exact sd3)); (focus (exact sd7))) | ((with_reducible apply r_condT); (focus (exact sd3))) | ((with_reducible (first | apply r_any | apply r_cond)); focus (simp only [↓reduceIte, clsOf, clsCall, Fr.ev, evs, ofV, ofA, ofS, put_mk, pureOp, readOp, pBin, binA, intOp_geq, Nat.reduceLT, Nat.reduceEqDiff, Nat.reduceSub, callTo_s, heavyCall, target, List.nil_append, List.append_nil, binA, stepOp, stHeavy, stV_mk, stO_mk, T.get_n, T.set_n, T.set_e, Nat.reduceDiv, Nat.reduceMod, stepAny, wantedA_none, ge_f h0, intOp_add (t := 2) (P := Tryz.prog) (show inR (n + 1) by unfold inR; omega), hneg, cv, hadd, k_digits hM1, sc] <;> rfl)) | (with_reducible rw [ifQ_t]) | (with_reducible rw [ifQ_f]) | (with_reducible refine ifQ_intro ?_ ?_ <;> intro hb))
    subst hQ
    refine ret_back (by simp only [Tryz.results30, resultOf, resultsA, resultA, List.toList_toArray, Fr.ev, Tget_set, ↓reduceIte] <;> rfl) ?_
    have e : Lib.itoa n = [45] ++ Lib.decDigits (M + 1) := by unfold Lib.itoa; rw [if_pos (by omega), show n.natAbs = M + 1 by omega]; rfl
    exact ⟨_, by rw [e], Same.base _ _ _⟩
theorem k_vdigits {h : Heap} {F : Nat} {n : Int} (hn : in64 n) : CallF.fn (KT S) 30 [.int .i64 n] ⟨h, F⟩ = some [.val (.str (Lib.itoa n)) ⟨h, F⟩] := kt_fn rfl (vdigits h F n hn)
theorem fmtInt (h : Heap) (F : Nat) (n : Int) (hn : in64 n) : Snd Tryz.prog GL 59 [.int .i64 n, .int .i64 10] ⟨h, F⟩ [.val (.str (Lib.itoa n)) ⟨h, F⟩] := by
  refine snd_grow noNum Tryz.func59 rfl (us := [.int .i64 n, .int .i64 10]) (u := .string ⟨(Lib.itoa n).toArray⟩) ?_ (fun _ => rfl) fun base w rg => ?_
  · rintro ρ vs ⟨_, _, r1, ⟨_, _, r2, r3, rfl⟩, rfl⟩
    simp only [RV] at r1 r2
    simp only [RVs] at r3
    subst r1 r2 r3; rfl
  · exact (Any.strconv_FormatInt_10 layFmt n hn.1 hn.2 w (tab_is (g := 3) rg rfl (by kernel_rfl))).mono fun e w' h => h
theorem k_fmt {h : Heap} {F : Nat} {n : Int} (hn : in64 n) : CallF.fn (KT S) 59 [.int .i64 n, .int .i64 10] ⟨h, F⟩ = some [.val (.str (Lib.itoa n)) ⟨h, F⟩] := kt_fn rfl (fmtInt h F n hn)
theorem pdigits (h : Heap) (F : Nat) (n : Int) (hn : in64 n) : Snd Tryz.prog GL 27 [.int .i64 n] ⟨h, F⟩ [.val (.str (Lib.itoa n)) ⟨h, F⟩] := by
  refine snd_val (by simp [Kin]) fun hw => ?_
  refine sndQ_body (K := (KT S0)) kt_ok mixed noNum (m := 0) Tryz.func27 ?_
  generalize hQ : retQ _ _ _ _ _ _ = Q0
  refine body_go (c := Tryz.f27.body.getD .skip) (n := 5) rfl rfl (by simp only [↓reduceIte, T.setList, T.set_e] <;> rfl) ?_
  simp only [Tryz.f27, Option.getD_some]
  repeat' (first | with_reducible (first | refine r_seq ?_ | refine r_next ?_ | refine r_block ?_ | refine r_seq_exit ?_ | refine r_seq_ret ?_ | refine r_blk_n ?_ | refine r_blk_ret ?_ | refine r_blk_hit ?_ | refine r_blk_miss rfl ?_ | refine r_skip ?_ | refine r_exit ?_ | refine r_ret ?_ | refine r_rq_exit ?_ | refine r_rq_ret ?_) | ((with_reducible apply r_regA); (focus (exact sd2)); (focus (exact sd1))) | ((with_reducible refine r_reg (List.toList_toArray) ?_ ?_); focus (exact sd1)) | ((with_reducible apply r_end); focus (exact sd4)) | ((with_reducible (first | apply r_move | apply r_assign)); (focus (exact sd3)); (focus (exact sd7))) | ((with_reducible apply r_condT); (focus (exact sd3))) | ((with_reducible (first | apply r_any | apply r_cond)); focus (simp only [↓reduceIte, clsOf, clsCall, Fr.ev, evs, ofV, ofA, ofS, put_mk, pureOp, Nat.reduceLT, Nat.reduceEqDiff, Nat.reduceSub, callTo_s, heavyCall, target, List.nil_append, List.append_nil, stepOp, stHeavy, stV_mk, stO_mk, T.get_n, T.set_n, T.set_e, Nat.reduceDiv, Nat.reduceMod, stepAny, wantedA_none, k_fmt hn] <;> rfl)) | (with_reducible rw [ifQ_t]) | (with_reducible rw [ifQ_f]) | (with_reducible refine ifQ_intro ?_ ?_ <;> intro hb))
  subst hQ
  refine ret_back (by simp only [Tryz.results27, resultOf, resultsA, resultA, List.toList_toArray, Fr.ev, Tget_set, ↓reduceIte] <;> rfl) ?_
  exact ⟨_, rfl, Same.base _ _ _⟩
theorem k_pdigits {h : Heap} {F : Nat} {n : Int} (hn : in64 n) : CallF.fn (KT S) 27 [.int .i64 n] ⟨h, F⟩ = some [.val (.str (Lib.itoa n)) ⟨h, F⟩] := kt_fn rfl (pdigits h F n hn)
/-! ### words -/
theorem word_out {k : Int} (h : ¬ (0 ≤ k ∧ k < 7)) : wordL k = [] := by
  unfold wordL
  split <;> first | rfl | (exfalso; apply h; decide)
theorem word_at : ∀ K : Nat, K < 7 → pIA Tryz.prog 291 (some (.gptr 0 0)) (some (.int .i64 (K : Int))) = some (.gptr 0 K) ∧ ∀ h, loadA Tryz.prog GL h 9 (.gptr 0 K) = some (.str (wordL (K : Int)))
  | 0, _ => ⟨by kernel_rfl, fun _ => by kernel_rfl⟩
  | 1, _ => ⟨by kernel_rfl, fun _ => by kernel_rfl⟩
  | 2, _ => ⟨by kernel_rfl, fun _ => by kernel_rfl⟩
  | 3, _ => ⟨by kernel_rfl, fun _ => by kernel_rfl⟩
  | 4, _ => ⟨by kernel_rfl, fun _ => by kernel_rfl⟩
  | 5, _ => ⟨by kernel_rfl, fun _ => by kernel_rfl⟩
  | 6, _ => ⟨by kernel_rfl, fun _ => by kernel_rfl⟩
  | n + 7, h => absurd h (by omega)
theorem pword (h : Heap) (F : Nat) (k : Int) : Snd Tryz.prog GL 112 [.int .i64 k] ⟨h, F⟩ [.val (.str (wordL k)) ⟨h, F⟩] := by
  refine snd_val (by simp [Kin]) fun hw => ?_
  by_cases h0 : k < 0
  · refine sndQ_body (K := (KT S0)) kt_ok mixed noNum (m := 0) Tryz.func112 ?_
    generalize hQ : retQ _ _ _ _ _ _ = Q0
    refine body_go (c := Tryz.f112.body.getD .skip) (n := 12) rfl rfl (by simp only [↓reduceIte, T.setList, T.set_e] <;> rfl) ?_
    simp only [Tryz.f112, Option.getD_some]
    repeat' (first | with_reducible (first | refine r_seq ?_ | refine r_next ?_ | refine r_block ?_ | refine r_seq_exit ?_ | refine r_seq_ret ?_ | refine r_blk_n ?_ | refine r_blk_ret ?_ | refine r_blk_hit ?_ | refine r_blk_miss rfl ?_ | refine r_skip ?_ | refine r_exit ?_ | refine r_ret ?_ | refine r_rq_exit ?_ | refine r_rq_ret ?_) | ((with_reducible apply r_regA); (focus (exact sd2)); (focus (exact sd1))) | ((with_reducible refine r_reg (List.toList_toArray) ?_ ?_); focus (exact sd1)) | ((with_reducible apply r_end); focus (exact sd4)) | ((with_reducible (first | apply r_move | apply r_assign)); (focus (exact sd3)); (focus (exact sd7))) | ((with_reducible apply r_condT); (focus (exact sd3))) | ((with_reducible (first | apply r_any | apply r_cond)); focus (simp only [↓reduceIte, wantedA_eq, gBool_f, Bool.not_true, clsOf, Fr.ev, ofV, ofA, ofS, put_mk, pureOp, pBin, binA, intOp_lss, pPick, List.getElem?_cons_zero, List.getElem?_cons_succ, Nat.reduceLT, Nat.reduceEqDiff, Nat.reduceSub, binA, stepOp, stV_mk, T.get_n, T.set_n, T.set_e, Nat.reduceDiv, Nat.reduceMod, stepAny, wantedA_none, ls_t h0] <;> rfl)) | (with_reducible rw [ifQ_t]) | (with_reducible rw [ifQ_f]) | (with_reducible refine ifQ_intro ?_ ?_ <;> intro hb))
    subst hQ
    refine ret_back (by simp only [Tryz.results112, resultOf, resultsA, resultA, List.toList_toArray, Fr.ev, T.get_n, Nat.reduceDiv, Nat.reduceMod, Nat.reduceSub, Nat.reduceEqDiff, ↓reduceIte] <;> rfl) ?_
    exact ⟨_, by rw [word_out (by omega)], Same.base _ _ _⟩
  by_cases h7 : (7 : Int) ≤ k
  · refine sndQ_body (K := (KT S0)) kt_ok mixed noNum (m := 0) Tryz.func112 ?_
    generalize hQ : retQ _ _ _ _ _ _ = Q0
    refine body_go (c := Tryz.f112.body.getD .skip) (n := 12) rfl rfl (by simp only [↓reduceIte, T.setList, T.set_e] <;> rfl) ?_
    simp only [Tryz.f112, Option.getD_some]
    repeat' (first | with_reducible (first | refine r_seq ?_ | refine r_next ?_ | refine r_block ?_ | refine r_seq_exit ?_ | refine r_seq_ret ?_ | refine r_blk_n ?_ | refine r_blk_ret ?_ | refine r_blk_hit ?_ | refine r_blk_miss rfl ?_ | refine r_skip ?_ | refine r_exit ?_ | refine r_ret ?_ | refine r_rq_exit ?_ | refine r_rq_ret ?_) | ((with_reducible apply r_regA); (focus (exact sd2)); (focus (exact sd1))) | ((with_reducible refine r_reg (List.toList_toArray) ?_ ?_); focus (exact sd1)) | ((with_reducible apply r_end); focus (exact sd4)) | ((with_reducible (first | apply r_move | apply r_assign)); (focus (exact sd3)); (focus (exact sd7))) | ((with_reducible apply r_condT); (focus (exact sd3))) | ((with_reducible (first | apply r_any | apply r_cond)); focus (simp only [↓reduceIte, wantedA_eq, gBool_f, Bool.not_false, clsOf, Fr.ev, ofV, ofA, ofS, put_mk, pureOp, pBin, binA, intOp_lss, intOp_geq, pPick, List.getElem?_cons_zero, List.getElem?_cons_succ, Nat.reduceLT, Nat.reduceEqDiff, Nat.reduceSub, binA, stepOp, stV_mk, T.get_n, T.set_n, T.set_e, Nat.reduceDiv, Nat.reduceMod, stepAny, wantedA_none, ls_f h0, ge_t h7] <;> rfl)) | (with_reducible rw [ifQ_t]) | (with_reducible rw [ifQ_f]) | (with_reducible refine ifQ_intro ?_ ?_ <;> intro hb))
    subst hQ
    refine ret_back (by simp only [Tryz.results112, resultOf, resultsA, resultA, List.toList_toArray, Fr.ev, T.get_n, Nat.reduceDiv, Nat.reduceMod, Nat.reduceSub, Nat.reduceEqDiff, ↓reduceIte] <;> rfl) ?_
    exact ⟨_, by rw [word_out (by omega)], Same.base _ _ _⟩
  obtain ⟨K, rfl⟩ := Int.eq_ofNat_of_zero_le (Int.not_lt.1 h0)
  obtain ⟨w1, w2⟩ := word_at K (by omega)
  refine sndQ_body (K := (KT S0)) kt_ok mixed noNum (m := 0) Tryz.func112 ?_
  generalize hQ : retQ _ _ _ _ _ _ = Q0
  refine body_go (c := Tryz.f112.body.getD .skip) (n := 12) rfl rfl (by simp only [↓reduceIte, T.setList, T.set_e] <;> rfl) ?_
  simp only [Tryz.f112, Option.getD_some]
  repeat' (first | with_reducible (first | refine r_seq ?_ | refine r_next ?_ | refine r_block ?_ | refine r_seq_exit ?_ | refine r_seq_ret ?_ | refine r_blk_n ?_ | refine r_blk_ret ?_ | refine r_blk_hit ?_ | refine r_blk_miss rfl ?_ | refine r_skip ?_ | refine r_exit ?_ | refine r_ret ?_ | refine r_rq_exit ?_ | refine r_rq_ret ?_) | ((with_reducible apply r_regA); (focus (exact sd2)); (focus (exact sd1))) | ((with_reducible refine r_reg (List.toList_toArray) ?_ ?_); focus (exact sd1)) | ((with_reducible apply r_end); focus (exact sd4)) | ((with_reducible (first | apply r_move | apply r_assign)); (focus (exact sd3)); (focus (exact sd7))) | ((with_reducible apply r_condT); (focus (exact sd3))) | ((with_reducible (first | apply r_any | apply r_cond)); focus (simp only [↓reduceIte, wantedA_eq, gBool_f, Bool.not_false, clsOf, Fr.ev, ofV, ofA, ofS, put_mk, pureOp, readOp, rLd, pBin, binA, intOp_lss, intOp_geq, pPick, List.getElem?_cons_zero, List.getElem?_cons_succ, Nat.reduceLT, Nat.reduceEqDiff, Nat.reduceSub, binA, stepOp, stV_mk, T.get_n, T.set_n, T.set_e, Nat.reduceDiv, Nat.reduceMod, stepAny, wantedA_none, ls_f h0, ge_f h7, w1, w2] <;> rfl)) | (with_reducible rw [ifQ_t]) | (with_reducible rw [ifQ_f]) | (with_reducible refine ifQ_intro ?_ ?_ <;> intro hb))
  subst hQ
  refine ret_back (by simp only [Tryz.results112, resultOf, resultsA, resultA, List.toList_toArray, Fr.ev, Tget_set, ↓reduceIte] <;> rfl) ?_
  exact ⟨_, rfl, Same.base _ _ _⟩
theorem k_pword {h : Heap} {F : Nat} {k : Int} : CallF.fn (KT S) 112 [.int .i64 k] ⟨h, F⟩ = some [.val (.str (wordL k)) ⟨h, F⟩] := kt_fn rfl (pword h F k)
theorem rword (h : Heap) (F : Nat) (k : Int) : Snd Tryz.prog GL 114 [.int .i64 k] ⟨h, F⟩ [.val (.str (wordL k)) ⟨h, F⟩] := by
  refine snd_val (by simp [Kin]) fun hw => ?_
  by_cases hk : 0 ≤ k ∧ k < 7
  · rcases (show k = 0 ∨ k = 1 ∨ k = 2 ∨ k = 3 ∨ k = 4 ∨ k = 5 ∨ k = 6 by omega) with rfl | rfl | rfl | rfl | rfl | rfl | rfl
    all_goals
      refine sndQ_body (K := (KT S0)) kt_ok mixed noNum (m := 0) Tryz.func114 ?_
      generalize hQ : retQ _ _ _ _ _ _ = Q0
      refine body_go (c := Tryz.f114.body.getD .skip) (n := 18) rfl rfl (by simp only [↓reduceIte, T.setList, T.set_e] <;> rfl) ?_
      simp only [Tryz.f114, Option.getD_some]
      repeat' (first | with_reducible (first | refine r_seq ?_ | refine r_next ?_ | refine r_block ?_ | refine r_seq_exit ?_ | refine r_seq_ret ?_ | refine r_blk_n ?_ | refine r_blk_ret ?_ | refine r_blk_hit ?_ | refine r_blk_miss rfl ?_ | refine r_skip ?_ | refine r_exit ?_ | refine r_ret ?_ | refine r_rq_exit ?_ | refine r_rq_ret ?_) | ((with_reducible apply r_regA); (focus (exact sd2)); (focus (exact sd1))) | ((with_reducible refine r_reg (List.toList_toArray) ?_ ?_); focus (exact sd1)) | ((with_reducible apply r_end); focus (exact sd4)) | ((with_reducible (first | apply r_move | apply r_assign)); (focus (exact sd3)); (focus (exact sd7))) | ((with_reducible apply r_condT); (focus (exact sd3))) | ((with_reducible (first | apply r_any | apply r_cond)); focus (simp only [↓reduceIte, clsOf, Fr.ev, ofV, ofA, ofS, put_mk, pureOp, pBin, binA, intOp_eql, Nat.reduceLT, Nat.reduceEqDiff, Nat.reduceSub, binA, beq_self_eq_true, Int.reduceBEq, stepOp, stV_mk, T.get_n, T.set_n, T.set_e, Nat.reduceDiv, Nat.reduceMod, stepAny, wantedA_none] <;> rfl)) | (with_reducible rw [ifQ_t]) | (with_reducible rw [ifQ_f]) | (with_reducible refine ifQ_intro ?_ ?_ <;> intro hb))
      subst hQ
      refine ret_back (by simp only [Tryz.results114, resultOf, resultsA, resultA, List.toList_toArray, Fr.ev, T.get_n, Nat.reduceDiv, Nat.reduceMod, Nat.reduceSub, Nat.reduceEqDiff, ↓reduceIte] <;> rfl) ?_
      exact ⟨_, rfl, Same.base _ _ _⟩
  · have e0 : (k == 0) = false := beq_eq_false_iff_ne.2 (by omega)
    have e1 : (k == 1) = false := beq_eq_false_iff_ne.2 (by omega)
    have e2 : (k == 2) = false := beq_eq_false_iff_ne.2 (by omega)
    have e3 : (k == 3) = false := beq_eq_false_iff_ne.2 (by omega)
    have e4 : (k == 4) = false := beq_eq_false_iff_ne.2 (by omega)
    have e5 : (k == 5) = false := beq_eq_false_iff_ne.2 (by omega)
    have e6 : (k == 6) = false := beq_eq_false_iff_ne.2 (by omega)
    refine sndQ_body (K := (KT S0)) kt_ok mixed noNum (m := 0) Tryz.func114 ?_
    generalize hQ : retQ _ _ _ _ _ _ = Q0
    refine body_go (c := Tryz.f114.body.getD .skip) (n := 18) rfl rfl (by simp only [↓reduceIte, T.setList, T.set_e] <;> rfl) ?_
    simp only [Tryz.f114, Option.getD_some]
    repeat' (first | with_reducible (first | refine r_seq ?_ | refine r_next ?_ | refine r_block ?_ | refine r_seq_exit ?_ | refine r_seq_ret ?_ | refine r_blk_n ?_ | refine r_blk_ret ?_ | refine r_blk_hit ?_ | refine r_blk_miss rfl ?_ | refine r_skip ?_ | refine r_exit ?_ | refine r_ret ?_ | refine r_rq_exit ?_ | refine r_rq_ret ?_) | ((with_reducible apply r_regA); (focus (exact sd2)); (focus (exact sd1))) | ((with_reducible refine r_reg (List.toList_toArray) ?_ ?_); focus (exact sd1)) | ((with_reducible apply r_end); focus (exact sd4)) | ((with_reducible (first | apply r_move | apply r_assign)); (focus (exact sd3)); (focus (exact sd7))) | ((with_reducible apply r_condT); (focus (exact sd3))) | ((with_reducible (first | apply r_any | apply r_cond)); focus (simp only [↓reduceIte, clsOf, Fr.ev, ofV, ofA, ofS, put_mk, pureOp, pBin, binA, intOp_eql, Nat.reduceLT, Nat.reduceEqDiff, Nat.reduceSub, binA, stepOp, stV_mk, T.get_n, T.set_n, T.set_e, Nat.reduceDiv, Nat.reduceMod, stepAny, wantedA_none, e0, e1, e2, e3, e4, e5, e6] <;> rfl)) | (with_reducible rw [ifQ_t]) | (with_reducible rw [ifQ_f]) | (with_reducible refine ifQ_intro ?_ ?_ <;> intro hb))
    subst hQ
    refine ret_back (by simp only [Tryz.results114, resultOf, resultsA, resultA, List.toList_toArray, Fr.ev, T.get_n, Nat.reduceDiv, Nat.reduceMod, Nat.reduceSub, Nat.reduceEqDiff, ↓reduceIte] <;> rfl) ?_
    exact ⟨_, by rw [word_out hk], Same.base _ _ _⟩
theorem k_rword {h : Heap} {F : Nat} {k : Int} : CallF.fn (KT S) 114 [.int .i64 k] ⟨h, F⟩ = some [.val (.str (wordL k)) ⟨h, F⟩] := kt_fn rfl (rword h F k)
end

end Go.Proofs.YtfhgiadogeephaaGreatDoor

namespace Go.Proofs.YtfhgiadogeephaaGreatDoor
open Go Go.Ai
set_option maxRecDepth 100000
end Go.Proofs.YtfhgiadogeephaaGreatDoor

namespace Go.Proofs.YtfhgiadogeephaaGreatDoor
open Go Go.Ai
set_option maxRecDepth 100000

theorem plain_ok (h : Heap) (F : Nat) (n : Int) : Snd Tryz.prog [] 279 [.int .u8 n] ⟨h, F⟩ [.val (.bool (dec (32 ≤ n ∧ n ≤ 126))) ⟨h, F⟩] := by
  refine snd_val (by simp [Kin]) fun hw => ?_
  by_cases h1 : 32 ≤ n
  · have hd := decide_eq_true h1
    refine sndQ_body (K := K0) kok0 mixed noNum (m := 0) Tryz.func279 ?_
    generalize hQ : retQ _ _ _ _ _ _ = Q0
    refine body_go (c := Tryz.f279.body.getD .skip) (n := 9) rfl rfl (by simp only [↓reduceIte, T.setList, T.set_e] <;> rfl) ?_
    simp only [Tryz.f279, Option.getD_some]
    repeat' (first | with_reducible (first | refine r_seq ?_ | refine r_next ?_ | refine r_block ?_ | refine r_seq_exit ?_ | refine r_seq_ret ?_ | refine r_blk_n ?_ | refine r_blk_ret ?_ | refine r_blk_hit ?_ | refine r_blk_miss rfl ?_ | refine r_skip ?_ | refine r_exit ?_ | refine r_ret ?_ | refine r_rq_exit ?_ | refine r_rq_ret ?_) | ((with_reducible apply r_regA); (focus (exact sd2)); (focus (exact sd1))) | ((with_reducible refine r_reg (List.toList_toArray) ?_ ?_); focus (exact sd1)) | ((with_reducible apply r_end); focus (exact sd4)) | ((with_reducible (first | apply r_any | apply r_cond)); focus (simp only [↓reduceIte, wantedA_eq, gBool_t, clsOf, Fr.ev, ofV, ofA, ofS, put_mk, pureOp, pBin, binA, intOp_leq, intOp_geq, pPick, List.getElem?_cons_zero, List.getElem?_cons_succ, Nat.reduceLT, Nat.reduceEqDiff, Nat.reduceSub, binA, stepOp, stV_mk, T.get_n, T.set_n, T.set_e, Nat.reduceDiv, Nat.reduceMod, stepAny, wantedA_none, hd] <;> rfl)) | (with_reducible rw [ifQ_t]) | (with_reducible rw [ifQ_f]) | (with_reducible refine ifQ_intro ?_ ?_ <;> intro hb))
    subst hQ
    refine ret_back (by simp only [Tryz.results279, resultOf, resultsA, resultA, List.toList_toArray, Fr.ev, T.get_n, Nat.reduceDiv, Nat.reduceMod, Nat.reduceSub, Nat.reduceEqDiff, ↓reduceIte] <;> rfl) ⟨_, out_b (by simp [h1]), ?_⟩
    repeat (first | exact Same.base _ _ _ | exact Same.refl _ | refine Same.hset hw ?_ (ky_le _ _))
  · have hd := decide_eq_false h1
    refine sndQ_body (K := K0) kok0 mixed noNum (m := 0) Tryz.func279 ?_
    generalize hQ : retQ _ _ _ _ _ _ = Q0
    refine body_go (c := Tryz.f279.body.getD .skip) (n := 9) rfl rfl (by simp only [↓reduceIte, T.setList, T.set_e] <;> rfl) ?_
    simp only [Tryz.f279, Option.getD_some]
    repeat' (first | with_reducible (first | refine r_seq ?_ | refine r_next ?_ | refine r_block ?_ | refine r_seq_exit ?_ | refine r_seq_ret ?_ | refine r_blk_n ?_ | refine r_blk_ret ?_ | refine r_blk_hit ?_ | refine r_blk_miss rfl ?_ | refine r_skip ?_ | refine r_exit ?_ | refine r_ret ?_ | refine r_rq_exit ?_ | refine r_rq_ret ?_) | ((with_reducible apply r_regA); (focus (exact sd2)); (focus (exact sd1))) | ((with_reducible refine r_reg (List.toList_toArray) ?_ ?_); focus (exact sd1)) | ((with_reducible apply r_end); focus (exact sd4)) | ((with_reducible (first | apply r_any | apply r_cond)); focus (simp only [↓reduceIte, wantedA_eq, gBool_t, clsOf, Fr.ev, ofV, ofA, ofS, put_mk, pureOp, pBin, binA, intOp_geq, pPick, List.getElem?_cons_zero, List.getElem?_cons_succ, Nat.reduceLT, Nat.reduceEqDiff, Nat.reduceSub, binA, stepOp, stV_mk, T.get_n, T.set_n, T.set_e, Nat.reduceDiv, Nat.reduceMod, stepAny, wantedA_none, hd] <;> rfl)) | (with_reducible rw [ifQ_t]) | (with_reducible rw [ifQ_f]) | (with_reducible refine ifQ_intro ?_ ?_ <;> intro hb))
    subst hQ
    refine ret_back (by simp only [Tryz.results279, resultOf, resultsA, resultA, List.toList_toArray, Fr.ev, T.get_n, Nat.reduceDiv, Nat.reduceMod, Nat.reduceSub, Nat.reduceEqDiff, ↓reduceIte] <;> rfl) ⟨_, out_f (fun hA => h1 hA.1), ?_⟩
    repeat (first | exact Same.base _ _ _ | exact Same.refl _ | refine Same.hset hw ?_ (ky_le _ _))

theorem may_ok (h : Heap) (F : Nat) (n : Int) : Snd Tryz.prog [] 230 [.int .u8 n] ⟨h, F⟩ [.val (.bool (dec (32 ≤ n ∧ n ≤ 126))) ⟨h, F⟩] := by
  refine snd_val (by simp [Kin]) fun hw => ?_
  by_cases h1 : 32 ≤ n
  · have hd := decide_eq_true h1
    refine sndQ_body (K := K0) kok0 mixed noNum (m := 0) Tryz.func230 ?_
    generalize hQ : retQ _ _ _ _ _ _ = Q0
    refine body_go (c := Tryz.f230.body.getD .skip) (n := 9) rfl rfl (by simp only [↓reduceIte, T.setList, T.set_e] <;> rfl) ?_
    simp only [Tryz.f230, Option.getD_some]
    repeat' (first | with_reducible (first | refine r_seq ?_ | refine r_next ?_ | refine r_block ?_ | refine r_seq_exit ?_ | refine r_seq_ret ?_ | refine r_blk_n ?_ | refine r_blk_ret ?_ | refine r_blk_hit ?_ | refine r_blk_miss rfl ?_ | refine r_skip ?_ | refine r_exit ?_ | refine r_ret ?_ | refine r_rq_exit ?_ | refine r_rq_ret ?_) | ((with_reducible apply r_regA); (focus (exact sd2)); (focus (exact sd1))) | ((with_reducible refine r_reg (List.toList_toArray) ?_ ?_); focus (exact sd1)) | ((with_reducible apply r_end); focus (exact sd4)) | ((with_reducible (first | apply r_any | apply r_cond)); focus (simp only [↓reduceIte, wantedA_eq, gBool_t, clsOf, Fr.ev, ofV, ofA, ofS, put_mk, pureOp, pBin, binA, intOp_leq, intOp_geq, pPick, List.getElem?_cons_zero, List.getElem?_cons_succ, Nat.reduceLT, Nat.reduceEqDiff, Nat.reduceSub, binA, stepOp, stV_mk, T.get_n, T.set_n, T.set_e, Nat.reduceDiv, Nat.reduceMod, stepAny, wantedA_none, hd] <;> rfl)) | (with_reducible rw [ifQ_t]) | (with_reducible rw [ifQ_f]) | (with_reducible refine ifQ_intro ?_ ?_ <;> intro hb))
    subst hQ
    refine ret_back (by simp only [Tryz.results230, resultOf, resultsA, resultA, List.toList_toArray, Fr.ev, T.get_n, Nat.reduceDiv, Nat.reduceMod, Nat.reduceSub, Nat.reduceEqDiff, ↓reduceIte] <;> rfl) ⟨_, out_b (by simp [h1]), ?_⟩
    repeat (first | exact Same.base _ _ _ | exact Same.refl _ | refine Same.hset hw ?_ (ky_le _ _))
  · have hd := decide_eq_false h1
    refine sndQ_body (K := K0) kok0 mixed noNum (m := 0) Tryz.func230 ?_
    generalize hQ : retQ _ _ _ _ _ _ = Q0
    refine body_go (c := Tryz.f230.body.getD .skip) (n := 9) rfl rfl (by simp only [↓reduceIte, T.setList, T.set_e] <;> rfl) ?_
    simp only [Tryz.f230, Option.getD_some]
    repeat' (first | with_reducible (first | refine r_seq ?_ | refine r_next ?_ | refine r_block ?_ | refine r_seq_exit ?_ | refine r_seq_ret ?_ | refine r_blk_n ?_ | refine r_blk_ret ?_ | refine r_blk_hit ?_ | refine r_blk_miss rfl ?_ | refine r_skip ?_ | refine r_exit ?_ | refine r_ret ?_ | refine r_rq_exit ?_ | refine r_rq_ret ?_) | ((with_reducible apply r_regA); (focus (exact sd2)); (focus (exact sd1))) | ((with_reducible refine r_reg (List.toList_toArray) ?_ ?_); focus (exact sd1)) | ((with_reducible apply r_end); focus (exact sd4)) | ((with_reducible (first | apply r_any | apply r_cond)); focus (simp only [↓reduceIte, wantedA_eq, gBool_t, clsOf, Fr.ev, ofV, ofA, ofS, put_mk, pureOp, pBin, binA, intOp_geq, pPick, List.getElem?_cons_zero, List.getElem?_cons_succ, Nat.reduceLT, Nat.reduceEqDiff, Nat.reduceSub, binA, stepOp, stV_mk, T.get_n, T.set_n, T.set_e, Nat.reduceDiv, Nat.reduceMod, stepAny, wantedA_none, hd] <;> rfl)) | (with_reducible rw [ifQ_t]) | (with_reducible rw [ifQ_f]) | (with_reducible refine ifQ_intro ?_ ?_ <;> intro hb))
    subst hQ
    refine ret_back (by simp only [Tryz.results230, resultOf, resultsA, resultA, List.toList_toArray, Fr.ev, T.get_n, Nat.reduceDiv, Nat.reduceMod, Nat.reduceSub, Nat.reduceEqDiff, ↓reduceIte] <;> rfl) ⟨_, out_f (fun hA => h1 hA.1), ?_⟩
    repeat (first | exact Same.base _ _ _ | exact Same.refl _ | refine Same.hset hw ?_ (ky_le _ _))

noncomputable def K1f : FuncId → List AV → St → Outs := fun f args s => match f, args with
  | 279, [.int .u8 n] => some [.val (.bool (dec (32 ≤ n ∧ n ≤ 126))) s]
  | 230, [.int .u8 n] => some [.val (.bool (dec (32 ≤ n ∧ n ≤ 126))) s]
  | _, _ => none
noncomputable def K1 : CallF := ⟨K1f, fun _ _ _ => none⟩
theorem k1_fn (f : FuncId) (args : List AV) (s : St) : CallF.fn K1 f args s = K1f f args s := rfl
theorem k1_ok : KOK Tryz.prog [] K1 := KOK.table fun f args s outs h => by
  obtain ⟨h0, F⟩ := s
  unfold K1f at h
  split at h
  · cases h; exact plain_ok _ _ _
  · cases h; exact may_ok _ _ _
  · cases h
theorem plain_dec (c : UInt8) : (32 ≤ (c.toNat : Int) ∧ (c.toNat : Int) ≤ 126) ↔ plainB c := by unfold plainB; omega

theorem printable_ok (h : Heap) (F : Nat) (s : List UInt8) (hs : s.length ≤ maxLen) : Snd Tryz.prog [] 214 [.str s] ⟨h, F⟩ [.val (.bool (dec (∀ c ∈ s, plainB c))) ⟨h, F⟩] := by
  have mxl : maxLen = 9223372036854775807 := by decide
  refine snd_val (by simp [Kin]) fun hw => ?_
  refine sndQ_body (K := K1) k1_ok mixed noNum (m := s.length + 1) Tryz.func214 ?_
  generalize hQ : retQ _ _ _ _ _ _ = Q0
  refine body_go (c := Tryz.f214.body.getD .skip) (n := 15) rfl rfl (by simp only [↓reduceIte, T.setList, T.set_e] <;> rfl) ?_
  simp only [Tryz.f214, Option.getD_some]
  repeat' (first | with_reducible (first | refine r_seq ?_ | refine r_next ?_ | refine r_block ?_ | refine r_seq_exit ?_ | refine r_seq_ret ?_ | refine r_blk_n ?_ | refine r_blk_ret ?_ | refine r_blk_hit ?_ | refine r_blk_miss rfl ?_ | refine r_skip ?_ | refine r_exit ?_ | refine r_ret ?_ | refine r_rq_exit ?_ | refine r_rq_ret ?_) | ((with_reducible apply r_regA); (focus (exact sd2)); (focus (exact sd1))) | ((with_reducible refine r_reg (List.toList_toArray) ?_ ?_); focus (exact sd1)) | ((with_reducible apply r_end); focus (exact sd4)) | ((with_reducible (first | apply r_any | apply r_cond)); focus (simp only [↓reduceIte, clsOf, clsCall, Fr.ev, ofV, ofA, ofS, put_mk, pureOp, readOp, List.getElem?_cons_zero, Nat.reduceLT, Nat.reduceEqDiff, Nat.reduceSub, stepOp, stV_mk, T.get_n, T.set_n, T.set_e, Nat.reduceDiv, Nat.reduceMod, Tryz.underlying9, stepAny, wantedA_none, rCall, rLen, rLen1_str, lenA] <;> rfl)) | (with_reducible rw [ifQ_t]) | (with_reducible rw [ifQ_f]) | (with_reducible refine ifQ_intro ?_ ?_ <;> intro hb))
  · refine r_loop (I := fun nn fr s1 => ∃ lc tt h1 i, fr = ⟨F, lc, 15, tt, [], .no⟩ ∧ s1 = ⟨h1, F + 1⟩ ∧ i ≤ s.length ∧ nn = s.length - i ∧ 2 ≤ lc ∧ lc + nn * 1000 ≤ 100000000000000000000000000 ∧ SameH h h1 ∧ tt.get 0 = some (.str s) ∧ tt.get 5 = some (.int .i64 s.length) ∧ tt.get 6 = some (.int .i64 i) ∧ (∀ j (hj : j < i) (hjl : j < s.length), plainB s[j])) (n := s.length) ?_ ?_ ?_
    · omega
    · exact ⟨_, _, _, 0, rfl, rfl, Nat.zero_le _, (Nat.sub_zero _).symm, by first | omega | exact Nat.le_of_ble_eq_true rfl, by omega, (by repeat (first | exact SameH.refl _ | refine SameH.hset hw ?_ (ky_le _ _))), (by first | rfl | (simp only [Nat.reduceLT, Tget_set, T.get_n, T.get_e, Nat.reduceEqDiff, Nat.reduceDiv, Nat.reduceMod, Nat.reduceSub, ↓reduceIte, if_true, if_false, hget_same, hget_hset_ite, ky_inj, Nat.reduceAdd, Nat.zero_add] <;> rfl)), (by first | rfl | (simp only [Nat.reduceLT, Tget_set, T.get_n, T.get_e, Nat.reduceEqDiff, Nat.reduceDiv, Nat.reduceMod, Nat.reduceSub, ↓reduceIte, if_true, if_false, hget_same, hget_hset_ite, ky_inj, Nat.reduceAdd, Nat.zero_add] <;> rfl)), (by first | rfl | (simp only [Nat.reduceLT, Tget_set, T.get_n, T.get_e, Nat.reduceEqDiff, Nat.reduceDiv, Nat.reduceMod, Nat.reduceSub, ↓reduceIte, if_true, if_false, hget_same, hget_hset_ite, ky_inj, Nat.reduceAdd, Nat.zero_add] <;> rfl)), fun j hj => absurd hj (Nat.not_lt_zero _)⟩
    rintro nn fr s1 ⟨lc, tt, h1, i, rfl, rfl, hi, rfl, hl0, hlc, hS, ht0, ht5, ht6, hI⟩
    by_cases hil : i < s.length
    · have hc : s[i]? = some s[i] := by simp [hil]
      repeat' (first | with_reducible (first | refine r_seq ?_ | refine r_next ?_ | refine r_block ?_ | refine r_seq_exit ?_ | refine r_seq_ret ?_ | refine r_blk_n ?_ | refine r_blk_ret ?_ | refine r_blk_hit ?_ | refine r_blk_miss rfl ?_ | refine r_skip ?_ | refine r_exit ?_ | refine r_ret ?_ | refine r_rq_exit ?_ | refine r_rq_ret ?_) | ((with_reducible apply r_regA); (focus (exact sd2)); (focus (exact sd1))) | ((with_reducible refine r_reg (List.toList_toArray) ?_ ?_); focus (exact sd1)) | ((with_reducible apply r_end); focus (exact sd4)) | ((with_reducible (first | apply r_any | apply r_cond)); focus (simp only [↓reduceIte, clsOf, clsCall, Fr.ev, evs, ofV, ofA, ofS, put_mk, pureOp, pBin, binA, intOp_lss, Nat.reduceLT, Nat.reduceEqDiff, pUn_not, callTo_s, heavyCall, target, List.nil_append, List.append_nil, binA, stepOp, stHeavy, stV_mk, stO_mk, Tryz.underlying9, stepAny, wantedA_none, K1f, k1_fn, Tget_set, ht0, ht5, ht6, lt_t hil, natOf_c, hc, pIx, pIx1, pIx2, intOp_add (inR_succ hil hs)] <;> rfl)) | (with_reducible rw [ifQ_t]) | (with_reducible rw [ifQ_f]) | (with_reducible refine ifQ_intro ?_ ?_ <;> intro hb))
      · subst hQ
        refine ret_back (by simp only [Tryz.results214, resultOf, resultsA, resultA, List.toList_toArray, Fr.ev, Tget_set, ↓reduceIte] <;> rfl) ⟨_, out_f fun hA => ?_, ?_⟩
        · rw [dec_t ((plain_dec _).2 (hA _ (List.getElem_mem hil)))] at hb; cases hb
        repeat (first | exact Same.base _ _ _ | exact hS | refine Same.hset hw ?_ (ky_le _ _))
      · have hp : plainB s[i] := (plain_dec _).1 (dec_iff.1 (by simpa using hb))
        refine r_rq_n (k := s.length - (i + 1)) (by omega) ⟨_, _, _, i + 1, rfl, rfl, by omega, rfl, by omega, by omega, hS, (by simp only [Tget_set, Nat.reduceEqDiff, ↓reduceIte, Tget_set, ht0] <;> rfl), (by simp only [Tget_set, Nat.reduceEqDiff, ↓reduceIte, Tget_set, ht5] <;> rfl), (by simp only [Tget_set, ↓reduceIte, Tget_set] <;> rfl), fun j hj hjl => by rcases Nat.lt_or_ge j i with hji | hji; exact hI j hji hjl; obtain rfl : j = i := (by omega); exact hp⟩
    · have hend : i = s.length := by omega
      repeat' (first | with_reducible (first | refine r_seq ?_ | refine r_next ?_ | refine r_block ?_ | refine r_seq_exit ?_ | refine r_seq_ret ?_ | refine r_blk_n ?_ | refine r_blk_ret ?_ | refine r_blk_hit ?_ | refine r_blk_miss rfl ?_ | refine r_skip ?_ | refine r_exit ?_ | refine r_ret ?_ | refine r_rq_exit ?_ | refine r_rq_ret ?_) | ((with_reducible apply r_regA); (focus (exact sd2)); (focus (exact sd1))) | ((with_reducible refine r_reg (List.toList_toArray) ?_ ?_); focus (exact sd1)) | ((with_reducible apply r_end); focus (exact sd4)) | ((with_reducible (first | apply r_any | apply r_cond)); focus (simp only [↓reduceIte, clsOf, Fr.ev, ofV, ofA, ofS, put_mk, pureOp, pBin, binA, intOp_lss, Nat.reduceLT, binA, stepOp, stV_mk, stepAny, wantedA_none, Tget_set, ht5, ht6, lt_f hil] <;> rfl)) | (with_reducible rw [ifQ_t]) | (with_reducible rw [ifQ_f]) | (with_reducible refine ifQ_intro ?_ ?_ <;> intro hb))
      · subst hQ
        refine ret_back (by simp only [Tryz.results214, resultOf, resultsA, resultA, List.toList_toArray, Fr.ev, Tget_set, ↓reduceIte] <;> rfl) ⟨_, out_t fun c hc => ?_, ?_⟩
        · obtain ⟨j, hj, rfl⟩ := List.getElem_of_mem hc; exact hI j (by omega) hj
        repeat (first | exact Same.base _ _ _ | exact hS | refine Same.hset hw ?_ (ky_le _ _))

end Go.Proofs.YtfhgiadogeephaaGreatDoor

namespace Go.Proofs.YtfhgiadogeephaaGreatDoor
open Go Go.Ai
set_option maxRecDepth 100000
theorem eg217 : Tryz.prog.eqGuardType Tryz.prog.depth 217 = false := by kernel_rfl
theorem si217 : Tryz.prog.stoodInHeld 217 = false := by kernel_rfl
theorem eq_int {P : Program} {d t : Nat} {kk k : IntKind} {a b : Int} (hu : P.underlying t = some (.int kk)) : eqIn P (d + 1) t (.int k a) (.int k b) = some (a == b) := by
  unfold eqIn; simp [hu]
theorem eq_str {P : Program} {d t : Nat} {a b : List UInt8} (hu : P.underlying t = some .string) : eqIn P (d + 1) t (.str a) (.str b) = some (a == b) := by
  unfold eqIn; simp [hu]
theorem eq_struct {P : Program} {d t : Nat} {fs : Array Field} {xs ys : List AV} (hu : P.underlying t = some (.struct fs)) (hs : P.stoodInHeld t = false) : eqIn P (d + 1) t (.agg xs) (.agg ys) = eqFs P (eqIn P d) xs ys fs.toList := by
  unfold eqIn; simp [hu, hs]
theorem eqV (d : Nat) (k n k' n' : Int) (t t' : List UInt8) : eqIn Tryz.prog (d + 2) 217 (.agg [.int .i64 k, .int .i64 n, .str t]) (.agg [.int .i64 k', .int .i64 n', .str t']) = some (dec ([AV.int .i64 k, .int .i64 n, .str t] = [.int .i64 k', .int .i64 n', .str t'])) := by
  rw [eq_struct Tryz.underlying217 si217]
  simp only [eqFs, partA, ag3, ag2, ag9, List.getElem?_cons_zero, List.getElem?_cons_succ, eq_int Tryz.underlying3, eq_int Tryz.underlying2, eq_str Tryz.underlying9]
  simp only [String.reduceBEq]
  cases h1 : k == k' <;> cases h2 : n == n' <;> cases h3 : t == t' <;> simp_all [dec]
theorem eqV100 (k n k' n' : Int) (t t' : List UInt8) : eqIn Tryz.prog 100 217 (.agg [.int .i64 k, .int .i64 n, .str t]) (.agg [.int .i64 k', .int .i64 n', .str t']) = some (dec ([AV.int .i64 k, .int .i64 n, .str t] = [.int .i64 k', .int .i64 n', .str t'])) := eqV 98 _ _ _ _ _ _
end Go.Proofs.YtfhgiadogeephaaGreatDoor

namespace Go.Proofs.YtfhgiadogeephaaGreatDoor
open Go Go.Ai
set_option maxRecDepth 100000

noncomputable def lenOk (l : List UInt8) : Bool := Nat.ble l.length maxLen
theorem lenOk_t {l : List UInt8} (h : l.length ≤ maxLen) : lenOk l = true := Nat.ble_eq_true_of_le h
theorem lenOk_le {l : List UInt8} (h : lenOk l = true) : l.length ≤ maxLen := Nat.le_of_ble_eq_true h

noncomputable def K2f : FuncId → List AV → St → Outs := fun f args s => match f, args with
  | 214, [.str l] => match lenOk l with
    | true => some [.val (.bool (dec (∀ c ∈ l, plainB c))) s]
    | false => none
  | f, args => K1f f args s
noncomputable def K2 : CallF := ⟨K2f, fun _ _ _ => none⟩
theorem k2_fn (f : FuncId) (args : List AV) (s : St) : CallF.fn K2 f args s = K2f f args s := rfl
theorem k2_ok : KOK Tryz.prog [] K2 := KOK.table fun f args s outs h => by
  obtain ⟨h0, F⟩ := s
  unfold K2f at h
  split at h
  · split at h
    · rename_i hl; cases h; exact printable_ok _ _ _ (lenOk_le hl)
    · cases h
  · exact k1_ok.fn _ _ _ _ h

theorem valid_ok (h : Heap) (F : Nat) (k n : Int) (t : List UInt8) (ht : t.length ≤ maxLen) : Snd Tryz.prog [] 154 [.agg [.int .i64 k, .int .i64 n, .str t]] ⟨h, F⟩ [.val (.bool (dec (vOk k n t))) ⟨h, F⟩] := by
  refine snd_val (by simp [Kin]) fun hw => ?_
  have hlen := lenOk_t ht
  have hln : t.length ≤ 64 → decide ((t.length : Int) ≤ 64) = true := fun h => decide_eq_true (by omega)
  have hlf : ¬ t.length ≤ 64 → decide ((t.length : Int) ≤ 64) = false := fun h => decide_eq_false (by omega)
  by_cases k0 : k = 0
  · subst k0
    refine sndQ_body (K := K2) k2_ok mixed noNum (m := 0) Tryz.func154 ?_
    generalize hQ : retQ _ _ _ _ _ _ = Q0
    refine body_go (c := Tryz.f154.body.getD .skip) (n := 31) rfl rfl (by simp only [↓reduceIte, T.setList, T.set_e] <;> rfl) ?_
    simp only [Tryz.f154, Option.getD_some]
    repeat' (first | with_reducible (first | refine r_seq ?_ | refine r_next ?_ | refine r_block ?_ | refine r_seq_exit ?_ | refine r_seq_ret ?_ | refine r_blk_n ?_ | refine r_blk_ret ?_ | refine r_blk_hit ?_ | refine r_blk_miss rfl ?_ | refine r_skip ?_ | refine r_exit ?_ | refine r_ret ?_ | refine r_rq_exit ?_ | refine r_rq_ret ?_) | ((with_reducible apply r_regA); (focus (exact sd2)); (focus (exact sd1))) | ((with_reducible refine r_reg (List.toList_toArray) ?_ ?_); focus (exact sd1)) | ((with_reducible apply r_end); focus (exact sd4)) | ((with_reducible (first | apply r_any | apply r_cond)); focus (simp only [↓reduceIte, Bool.not_false, clsOf, newBlk, allocOp, Fr.ev, evParts, ofV, ofA, ofS, nVar, AV.cells, rowOf_mk, put_mk, upd_mk, keyOf_mk, pureOp, readOp, pFA, pFA1, pFA2, rLd, rdAB_row, oneCell_one, someAgg_s, hget_same, pBin, binA, intOp_eql, List.length_cons, List.length_nil, List.getElem?_cons_zero, List.drop_zero, List.take_succ_cons, List.take_zero, Nat.zero_add, Nat.add_zero, Nat.reduceAdd, Nat.reduceLT, Nat.reduceLeDiff, Nat.reduceEqDiff, Nat.reduceSub, Nat.add_eq, loadA_w, loadW_a, loadW_s, pBuild, pBuild2, fieldsOk, buildParts, binA, eqGuardOk, beq_self_eq_true, stepOp, stV_mk, stB_mk, T.get_n, T.set_n, T.set_e, Nat.reduceDiv, Nat.reduceMod, sz2, sz3, ag3, sz9, sz217, ag217, zr217, Tryz.underlying217, stepAny, wantedA_none, eqV100, eg217] <;> rfl)) | (with_reducible rw [ifQ_t]) | (with_reducible rw [ifQ_f]) | (with_reducible refine ifQ_intro ?_ ?_ <;> intro hb))
    subst hQ
    refine ret_back (by simp only [Tryz.results154, resultOf, resultsA, resultA, List.toList_toArray, Fr.ev, T.get_n, Nat.reduceDiv, Nat.reduceMod, Nat.reduceSub, Nat.reduceEqDiff, ↓reduceIte] <;> rfl) ⟨_, out_b ?_, ?_⟩
    · simp [dec_iff, vOk]
    repeat (first | exact Same.base _ _ _ | exact Same.refl _ | refine Same.hset hw ?_ (ky_le _ _))
  by_cases k1 : k = 1
  · subst k1
    refine sndQ_body (K := K2) k2_ok mixed noNum (m := 0) Tryz.func154 ?_
    generalize hQ : retQ _ _ _ _ _ _ = Q0
    refine body_go (c := Tryz.f154.body.getD .skip) (n := 31) rfl rfl (by simp only [↓reduceIte, T.setList, T.set_e] <;> rfl) ?_
    simp only [Tryz.f154, Option.getD_some]
    repeat' (first | with_reducible (first | refine r_seq ?_ | refine r_next ?_ | refine r_block ?_ | refine r_seq_exit ?_ | refine r_seq_ret ?_ | refine r_blk_n ?_ | refine r_blk_ret ?_ | refine r_blk_hit ?_ | refine r_blk_miss rfl ?_ | refine r_skip ?_ | refine r_exit ?_ | refine r_ret ?_ | refine r_rq_exit ?_ | refine r_rq_ret ?_) | ((with_reducible apply r_regA); (focus (exact sd2)); (focus (exact sd1))) | ((with_reducible refine r_reg (List.toList_toArray) ?_ ?_); focus (exact sd1)) | ((with_reducible apply r_end); focus (exact sd4)) | ((with_reducible (first | apply r_any | apply r_cond)); focus (simp only [↓reduceIte, clsOf, newBlk, allocOp, Fr.ev, ofV, ofA, ofS, nVar, AV.cells, rowOf_mk, put_mk, upd_mk, keyOf_mk, pureOp, readOp, pFA, pFA1, pFA2, rLd, rdAB_row, oneCell_one, hget_same, pBin, binA, intOp_eql, List.length_cons, List.length_nil, List.getElem?_cons_zero, List.getElem?_cons_succ, List.drop_zero, List.drop_succ_cons, List.take_succ_cons, List.take_zero, Nat.zero_add, Nat.add_zero, Nat.reduceAdd, Nat.reduceLT, Nat.reduceLeDiff, Nat.reduceEqDiff, Nat.reduceSub, Nat.add_eq, loadA_w, loadW_s, binA, beq_self_eq_true, Int.reduceBEq, stepOp, stV_mk, stB_mk, T.get_n, T.set_n, T.set_e, Nat.reduceDiv, Nat.reduceMod, sz3, ag3, sz9, ag9, Tryz.underlying217, stepAny, wantedA_none, strOp] <;> rfl)) | (with_reducible rw [ifQ_t]) | (with_reducible rw [ifQ_f]) | (with_reducible refine ifQ_intro ?_ ?_ <;> intro hb))
    subst hQ
    refine ret_back (by simp only [Tryz.results154, resultOf, resultsA, resultA, List.toList_toArray, Fr.ev, T.get_n, Nat.reduceDiv, Nat.reduceMod, Nat.reduceSub, Nat.reduceEqDiff, ↓reduceIte] <;> rfl) ⟨_, out_b ?_, ?_⟩
    · simp [vOk]
    repeat (first | exact Same.base _ _ _ | exact Same.refl _ | refine Same.hset hw ?_ (ky_le _ _))
  by_cases k2 : k = 2
  · subst k2
    by_cases n0 : n = 0
    · subst n0
      by_cases hl : t.length ≤ 64
      · have hl1 := hln hl
        refine sndQ_body (K := K2) k2_ok mixed noNum (m := 0) Tryz.func154 ?_
        generalize hQ : retQ _ _ _ _ _ _ = Q0
        refine body_go (c := Tryz.f154.body.getD .skip) (n := 31) rfl rfl (by simp only [↓reduceIte, T.setList, T.set_e] <;> rfl) ?_
        simp only [Tryz.f154, Option.getD_some]
        repeat' (first | with_reducible (first | refine r_seq ?_ | refine r_next ?_ | refine r_block ?_ | refine r_seq_exit ?_ | refine r_seq_ret ?_ | refine r_blk_n ?_ | refine r_blk_ret ?_ | refine r_blk_hit ?_ | refine r_blk_miss rfl ?_ | refine r_skip ?_ | refine r_exit ?_ | refine r_ret ?_ | refine r_rq_exit ?_ | refine r_rq_ret ?_) | ((with_reducible apply r_regA); (focus (exact sd2)); (focus (exact sd1))) | ((with_reducible refine r_reg (List.toList_toArray) ?_ ?_); focus (exact sd1)) | ((with_reducible apply r_end); focus (exact sd4)) | ((with_reducible (first | apply r_any | apply r_cond)); focus (simp only [↓reduceIte, wantedA_eq, gBool_t, clsOf, clsCall, newBlk, allocOp, Fr.ev, evs, ofV, ofA, ofS, nVar, AV.cells, rowOf_mk, put_mk, upd_mk, keyOf_mk, pureOp, readOp, pFA, pFA1, pFA2, rLd, rdAB_row, oneCell_one, hget_same, pBin, binA, intOp_eql, intOp_leq, pPick, List.length_cons, List.length_nil, List.getElem?_cons_zero, List.getElem?_cons_succ, List.drop_zero, List.drop_succ_cons, List.take_succ_cons, List.take_zero, Nat.zero_add, Nat.add_zero, Nat.reduceAdd, Nat.reduceLT, Nat.reduceLeDiff, Nat.reduceEqDiff, Nat.reduceSub, Nat.add_eq, loadA_w, loadW_s, callTo_s, heavyCall, target, List.nil_append, List.append_nil, binA, beq_self_eq_true, Int.reduceBEq, stepOp, stHeavy, stV_mk, stB_mk, stO_mk, T.get_n, T.set_n, T.set_e, Nat.reduceDiv, Nat.reduceMod, sz2, ag2, sz3, ag3, sz9, ag9, Tryz.underlying9, Tryz.underlying217, stepAny, wantedA_none, rCall, rLen, rLen1_str, lenA, K2f, k2_fn, hlen, hl1] <;> rfl)) | (with_reducible rw [ifQ_t]) | (with_reducible rw [ifQ_f]) | (with_reducible refine ifQ_intro ?_ ?_ <;> intro hb))
        subst hQ
        refine ret_back (by simp only [Tryz.results154, resultOf, resultsA, resultA, List.toList_toArray, Fr.ev, T.get_n, Nat.reduceDiv, Nat.reduceMod, Nat.reduceSub, Nat.reduceEqDiff, ↓reduceIte] <;> rfl) ⟨_, out_b ?_, ?_⟩
        · simp [dec_iff, vOk, hl]
        repeat (first | exact Same.base _ _ _ | exact Same.refl _ | refine Same.hset hw ?_ (ky_le _ _))
      · have hl1 := hlf hl
        refine sndQ_body (K := K2) k2_ok mixed noNum (m := 0) Tryz.func154 ?_
        generalize hQ : retQ _ _ _ _ _ _ = Q0
        refine body_go (c := Tryz.f154.body.getD .skip) (n := 31) rfl rfl (by simp only [↓reduceIte, T.setList, T.set_e] <;> rfl) ?_
        simp only [Tryz.f154, Option.getD_some]
        repeat' (first | with_reducible (first | refine r_seq ?_ | refine r_next ?_ | refine r_block ?_ | refine r_seq_exit ?_ | refine r_seq_ret ?_ | refine r_blk_n ?_ | refine r_blk_ret ?_ | refine r_blk_hit ?_ | refine r_blk_miss rfl ?_ | refine r_skip ?_ | refine r_exit ?_ | refine r_ret ?_ | refine r_rq_exit ?_ | refine r_rq_ret ?_) | ((with_reducible apply r_regA); (focus (exact sd2)); (focus (exact sd1))) | ((with_reducible refine r_reg (List.toList_toArray) ?_ ?_); focus (exact sd1)) | ((with_reducible apply r_end); focus (exact sd4)) | ((with_reducible (first | apply r_any | apply r_cond)); focus (simp only [↓reduceIte, wantedA_eq, gBool_t, clsOf, clsCall, newBlk, allocOp, Fr.ev, ofV, ofA, ofS, nVar, AV.cells, rowOf_mk, put_mk, upd_mk, keyOf_mk, pureOp, readOp, pFA, pFA1, pFA2, rLd, rdAB_row, oneCell_one, hget_same, pBin, binA, intOp_eql, intOp_leq, pPick, List.length_cons, List.length_nil, List.getElem?_cons_zero, List.getElem?_cons_succ, List.drop_zero, List.drop_succ_cons, List.take_succ_cons, List.take_zero, Nat.zero_add, Nat.add_zero, Nat.reduceAdd, Nat.reduceLT, Nat.reduceLeDiff, Nat.reduceEqDiff, Nat.reduceSub, Nat.add_eq, loadA_w, loadW_s, binA, beq_self_eq_true, Int.reduceBEq, stepOp, stV_mk, stB_mk, T.get_n, T.set_n, T.set_e, Nat.reduceDiv, Nat.reduceMod, sz2, ag2, sz3, ag3, sz9, ag9, Tryz.underlying9, Tryz.underlying217, stepAny, wantedA_none, rCall, rLen, rLen1_str, lenA, hl1] <;> rfl)) | (with_reducible rw [ifQ_t]) | (with_reducible rw [ifQ_f]) | (with_reducible refine ifQ_intro ?_ ?_ <;> intro hb))
        subst hQ
        refine ret_back (by simp only [Tryz.results154, resultOf, resultsA, resultA, List.toList_toArray, Fr.ev, T.get_n, Nat.reduceDiv, Nat.reduceMod, Nat.reduceSub, Nat.reduceEqDiff, ↓reduceIte] <;> rfl) ⟨_, out_f ?_, ?_⟩
        · simp [vOk, hl]
        repeat (first | exact Same.base _ _ _ | exact Same.refl _ | refine Same.hset hw ?_ (ky_le _ _))
    · have hn0 : (n == 0) = false := by simp [n0]
      refine sndQ_body (K := K2) k2_ok mixed noNum (m := 0) Tryz.func154 ?_
      generalize hQ : retQ _ _ _ _ _ _ = Q0
      refine body_go (c := Tryz.f154.body.getD .skip) (n := 31) rfl rfl (by simp only [↓reduceIte, T.setList, T.set_e] <;> rfl) ?_
      simp only [Tryz.f154, Option.getD_some]
      repeat' (first | with_reducible (first | refine r_seq ?_ | refine r_next ?_ | refine r_block ?_ | refine r_seq_exit ?_ | refine r_seq_ret ?_ | refine r_blk_n ?_ | refine r_blk_ret ?_ | refine r_blk_hit ?_ | refine r_blk_miss rfl ?_ | refine r_skip ?_ | refine r_exit ?_ | refine r_ret ?_ | refine r_rq_exit ?_ | refine r_rq_ret ?_) | ((with_reducible apply r_regA); (focus (exact sd2)); (focus (exact sd1))) | ((with_reducible refine r_reg (List.toList_toArray) ?_ ?_); focus (exact sd1)) | ((with_reducible apply r_end); focus (exact sd4)) | ((with_reducible (first | apply r_any | apply r_cond)); focus (simp only [↓reduceIte, wantedA_eq, gBool_t, clsOf, newBlk, allocOp, Fr.ev, ofV, ofA, ofS, nVar, AV.cells, rowOf_mk, put_mk, upd_mk, keyOf_mk, pureOp, readOp, pFA, pFA1, pFA2, rLd, rdAB_row, oneCell_one, hget_same, pBin, binA, intOp_eql, pPick, List.length_cons, List.length_nil, List.getElem?_cons_zero, List.getElem?_cons_succ, List.drop_zero, List.drop_succ_cons, List.take_succ_cons, List.take_zero, Nat.zero_add, Nat.add_zero, Nat.reduceAdd, Nat.reduceLT, Nat.reduceLeDiff, Nat.reduceEqDiff, Nat.reduceSub, Nat.add_eq, loadA_w, loadW_s, binA, beq_self_eq_true, Int.reduceBEq, stepOp, stV_mk, stB_mk, T.get_n, T.set_n, T.set_e, Nat.reduceDiv, Nat.reduceMod, sz2, ag2, sz3, ag3, Tryz.underlying217, stepAny, wantedA_none, hn0] <;> rfl)) | (with_reducible rw [ifQ_t]) | (with_reducible rw [ifQ_f]) | (with_reducible refine ifQ_intro ?_ ?_ <;> intro hb))
      subst hQ
      refine ret_back (by simp only [Tryz.results154, resultOf, resultsA, resultA, List.toList_toArray, Fr.ev, T.get_n, Nat.reduceDiv, Nat.reduceMod, Nat.reduceSub, Nat.reduceEqDiff, ↓reduceIte] <;> rfl) ⟨_, out_f ?_, ?_⟩
      · simp [vOk, n0]
      repeat (first | exact Same.base _ _ _ | exact Same.refl _ | refine Same.hset hw ?_ (ky_le _ _))
  have hk0 : (k == 0) = false := by simp [k0]
  have hk1 : (k == 1) = false := by simp [k1]
  have hk2 : (k == 2) = false := by simp [k2]
  refine sndQ_body (K := K2) k2_ok mixed noNum (m := 0) Tryz.func154 ?_
  generalize hQ : retQ _ _ _ _ _ _ = Q0
  refine body_go (c := Tryz.f154.body.getD .skip) (n := 31) rfl rfl (by simp only [↓reduceIte, T.setList, T.set_e] <;> rfl) ?_
  simp only [Tryz.f154, Option.getD_some]
  repeat' (first | with_reducible (first | refine r_seq ?_ | refine r_next ?_ | refine r_block ?_ | refine r_seq_exit ?_ | refine r_seq_ret ?_ | refine r_blk_n ?_ | refine r_blk_ret ?_ | refine r_blk_hit ?_ | refine r_blk_miss rfl ?_ | refine r_skip ?_ | refine r_exit ?_ | refine r_ret ?_ | refine r_rq_exit ?_ | refine r_rq_ret ?_) | ((with_reducible apply r_regA); (focus (exact sd2)); (focus (exact sd1))) | ((with_reducible refine r_reg (List.toList_toArray) ?_ ?_); focus (exact sd1)) | ((with_reducible apply r_end); focus (exact sd4)) | ((with_reducible (first | apply r_any | apply r_cond)); focus (simp only [↓reduceIte, clsOf, newBlk, allocOp, Fr.ev, ofV, ofA, ofS, nVar, AV.cells, rowOf_mk, put_mk, upd_mk, keyOf_mk, pureOp, readOp, pFA, pFA1, pFA2, rLd, rdAB_row, oneCell_one, hget_same, pBin, binA, intOp_eql, List.length_cons, List.length_nil, List.getElem?_cons_zero, List.drop_zero, List.take_succ_cons, List.take_zero, Nat.zero_add, Nat.add_zero, Nat.reduceAdd, Nat.reduceLT, Nat.reduceLeDiff, Nat.reduceEqDiff, Nat.reduceSub, Nat.add_eq, loadA_w, loadW_s, binA, stepOp, stV_mk, stB_mk, T.get_n, T.set_n, T.set_e, Nat.reduceDiv, Nat.reduceMod, sz3, ag3, Tryz.underlying217, stepAny, wantedA_none, hk0, hk1, hk2] <;> rfl)) | (with_reducible rw [ifQ_t]) | (with_reducible rw [ifQ_f]) | (with_reducible refine ifQ_intro ?_ ?_ <;> intro hb))
  subst hQ
  refine ret_back (by simp only [Tryz.results154, resultOf, resultsA, resultA, List.toList_toArray, Fr.ev, T.get_n, Nat.reduceDiv, Nat.reduceMod, Nat.reduceSub, Nat.reduceEqDiff, ↓reduceIte] <;> rfl) ⟨_, out_f ?_, ?_⟩
  · simp [vOk, k0, k1, k2]
  repeat (first | exact Same.base _ _ _ | exact Same.refl _ | refine Same.hset hw ?_ (ky_le _ _))

end Go.Proofs.YtfhgiadogeephaaGreatDoor

namespace Go.Proofs.YtfhgiadogeephaaGreatDoor
open Go Go.Ai
set_option maxRecDepth 100000

theorem vv_text (h : Heap) (F : Nat) (n : Int) (t : List UInt8) (hs : t.length ≤ maxLen) : Snd Tryz.prog [] 167 [.agg [.int .i64 2, .int .i64 n, .str t]] ⟨h, F⟩ [.val (.bool (dec (vOk 2 n t))) ⟨h, F⟩] := by
  have mxl : maxLen = 9223372036854775807 := by decide
  refine snd_val (by simp [Kin]) fun hw => ?_
  refine sndQ_body (K := K2) k2_ok mixed noNum (m := t.length + 1) Tryz.func167 ?_
  generalize hQ : retQ _ _ _ _ _ _ = Q0
  refine body_go (c := Tryz.f167.body.getD .skip) (n := 45) rfl rfl (by simp only [↓reduceIte, T.setList, T.set_e] <;> rfl) ?_
  simp only [Tryz.f167, Option.getD_some]
  repeat' (first | with_reducible (first | refine r_seq ?_ | refine r_next ?_ | refine r_block ?_ | refine r_seq_exit ?_ | refine r_seq_ret ?_ | refine r_blk_n ?_ | refine r_blk_ret ?_ | refine r_blk_hit ?_ | refine r_blk_miss rfl ?_ | refine r_skip ?_ | refine r_exit ?_ | refine r_ret ?_ | refine r_rq_exit ?_ | refine r_rq_ret ?_) | ((with_reducible apply r_regA); (focus (exact sd2)); (focus (exact sd1))) | ((with_reducible refine r_reg (List.toList_toArray) ?_ ?_); focus (exact sd1)) | ((with_reducible apply r_end); focus (exact sd4)) | ((with_reducible (first | apply r_any | apply r_cond)); focus (simp only [↓reduceIte, clsOf, newBlk, allocOp, Fr.ev, ofV, ofA, ofS, nVar, AV.cells, rowOf_mk, put_mk, upd_mk, keyOf_mk, pureOp, readOp, pFA, pFA1, pFA2, rLd, rdAB_row, oneCell_one, hget_same, pBin, binA, intOp_eql, List.length_cons, List.length_nil, List.getElem?_cons_zero, List.drop_zero, List.take_succ_cons, List.take_zero, Nat.zero_add, Nat.add_zero, Nat.reduceAdd, Nat.reduceLT, Nat.reduceLeDiff, Nat.reduceEqDiff, Nat.reduceSub, Nat.add_eq, loadA_w, loadW_s, binA, beq_self_eq_true, Int.reduceBEq, stepOp, stV_mk, stB_mk, T.get_n, T.set_n, T.set_e, Nat.reduceDiv, Nat.reduceMod, sz3, ag3, Tryz.underlying217, stepAny, wantedA_none] <;> rfl)) | (with_reducible rw [ifQ_t]) | (with_reducible rw [ifQ_f]) | (with_reducible refine ifQ_intro ?_ ?_ <;> intro hb))
  · refine r_loop (I := fun nn fr s1 => ∃ lc tt h1 i, fr = ⟨F, lc, 45, tt, [], .no⟩ ∧ s1 = ⟨h1, F + 1⟩ ∧ i ≤ t.length ∧ nn = t.length - i ∧ 2 ≤ lc ∧ lc + nn * 1000 ≤ 100000000000000000000000000 ∧ SameH h h1 ∧ tt.get 1 = some (.ptr (ky F 0) 0) ∧ tt.get 3 = some (.int .i64 i) ∧ hget h1 (ky F 0) = some (mkRow [.int .i64 2, .int .i64 n, .str t] 0) ∧ (∀ j (hj : j < i) (hjl : j < t.length), plainB t[j])) (n := t.length) ?_ ?_ ?_
    · omega
    · exact ⟨_, _, _, 0, rfl, rfl, Nat.zero_le _, (Nat.sub_zero _).symm, by first | omega | exact Nat.le_of_ble_eq_true rfl, by omega, (by repeat (first | exact SameH.refl _ | refine SameH.hset hw ?_ (ky_le _ _))), (by first | rfl | (simp only [Nat.reduceLT, Tget_set, T.get_n, T.get_e, Nat.reduceEqDiff, Nat.reduceDiv, Nat.reduceMod, Nat.reduceSub, ↓reduceIte, if_true, if_false, hget_same, hget_hset_ite, ky_inj, Nat.reduceAdd, Nat.zero_add] <;> rfl)), (by first | rfl | (simp only [Nat.reduceLT, Tget_set, T.get_n, T.get_e, Nat.reduceEqDiff, Nat.reduceDiv, Nat.reduceMod, Nat.reduceSub, ↓reduceIte, if_true, if_false, hget_same, hget_hset_ite, ky_inj, Nat.reduceAdd, Nat.zero_add] <;> rfl)), (by first | rfl | (simp only [hget_same] <;> rfl)), fun j hj => absurd hj (Nat.not_lt_zero _)⟩
    rintro nn fr s1 ⟨lc, tt, h1, i, rfl, rfl, hi, rfl, hl0, hlc, hS, ht1, ht3, hc0, hI⟩
    by_cases hil : i < t.length
    · have hc : t[i]? = some t[i] := by simp [hil]
      repeat' (first | with_reducible (first | refine r_seq ?_ | refine r_next ?_ | refine r_block ?_ | refine r_seq_exit ?_ | refine r_seq_ret ?_ | refine r_blk_n ?_ | refine r_blk_ret ?_ | refine r_blk_hit ?_ | refine r_blk_miss rfl ?_ | refine r_skip ?_ | refine r_exit ?_ | refine r_ret ?_ | refine r_rq_exit ?_ | refine r_rq_ret ?_) | ((with_reducible apply r_regA); (focus (exact sd2)); (focus (exact sd1))) | ((with_reducible refine r_reg (List.toList_toArray) ?_ ?_); focus (exact sd1)) | ((with_reducible apply r_end); focus (exact sd4)) | ((with_reducible (first | apply r_any | apply r_cond)); focus (simp only [↓reduceIte, clsOf, clsCall, Fr.ev, evs, ofV, ofA, ofS, put_mk, pureOp, readOp, pFA, pFA1, pFA2, rLd, rdAB_row, oneCell_one, pBin, binA, intOp_lss, List.length_cons, List.length_nil, List.getElem?_cons_zero, List.getElem?_cons_succ, List.drop_zero, List.drop_succ_cons, List.take_succ_cons, List.take_zero, Nat.zero_add, Nat.reduceAdd, Nat.reduceLT, Nat.reduceLeDiff, Nat.reduceEqDiff, Nat.add_eq, loadA_w, loadW_s, pUn_not, callTo_s, heavyCall, target, List.nil_append, List.append_nil, binA, stepOp, stHeavy, stV_mk, stO_mk, sz9, ag9, Tryz.underlying9, Tryz.underlying217, stepAny, wantedA_none, rCall, rLen, rLen1_str, lenA, K2f, K1f, k2_fn, Tget_set, ht1, ht3, hc0, lt_t hil, natOf_c, hc, pIx, pIx1, pIx2, intOp_add (inR_succ hil hs)] <;> rfl)) | (with_reducible rw [ifQ_t]) | (with_reducible rw [ifQ_f]) | (with_reducible refine ifQ_intro ?_ ?_ <;> intro hb))
      · subst hQ
        refine ret_back (by simp only [Tryz.results167, resultOf, resultsA, resultA, List.toList_toArray, Fr.ev, Tget_set, ↓reduceIte] <;> rfl) ⟨_, out_f fun hA => ?_, ?_⟩
        · have hA : 2 = 2 ∧ n = 0 ∧ t.length ≤ 64 ∧ ∀ c ∈ t, plainB c := by simpa [vOk] using hA
          rw [dec_t ((plain_dec _).2 (hA.2.2.2 _ (List.getElem_mem hil)))] at hb; cases hb
        repeat (first | exact Same.base _ _ _ | exact hS | refine Same.hset hw ?_ (ky_le _ _))
      · have hp : plainB t[i] := (plain_dec _).1 (dec_iff.1 (by simpa using hb))
        refine r_rq_n (k := t.length - (i + 1)) (by omega) ⟨_, _, _, i + 1, rfl, rfl, by omega, rfl, by omega, by omega, hS, (by simp only [Tget_set, Nat.reduceEqDiff, ↓reduceIte, Tget_set, ht1] <;> rfl), (by simp only [Tget_set, ↓reduceIte, Tget_set] <;> rfl), (by simp only [hc0] <;> rfl), fun j hj hjl => by rcases Nat.lt_or_ge j i with hji | hji; exact hI j hji hjl; obtain rfl : j = i := (by omega); exact hp⟩
    · have hend : i = t.length := by omega
      have hall : ∀ c ∈ t, plainB c := fun c hc => by
        obtain ⟨j, hj, rfl⟩ := List.getElem_of_mem hc
        exact hI j (by omega) hj
      by_cases n0 : n = 0
      · subst n0
        by_cases hl : t.length ≤ 64
        · have hl1 : decide ((t.length : Int) ≤ 64) = true := decide_eq_true (by omega)
          repeat' (first | with_reducible (first | refine r_seq ?_ | refine r_next ?_ | refine r_block ?_ | refine r_seq_exit ?_ | refine r_seq_ret ?_ | refine r_blk_n ?_ | refine r_blk_ret ?_ | refine r_blk_hit ?_ | refine r_blk_miss rfl ?_ | refine r_skip ?_ | refine r_exit ?_ | refine r_ret ?_ | refine r_rq_exit ?_ | refine r_rq_ret ?_) | ((with_reducible apply r_regA); (focus (exact sd2)); (focus (exact sd1))) | ((with_reducible refine r_reg (List.toList_toArray) ?_ ?_); focus (exact sd1)) | ((with_reducible apply r_end); focus (exact sd4)) | ((with_reducible (first | apply r_any | apply r_cond)); focus (simp only [↓reduceIte, wantedA_eq, gBool_t, clsOf, clsCall, Fr.ev, ofV, ofA, ofS, put_mk, pureOp, readOp, pFA, pFA1, pFA2, rLd, rdAB_row, oneCell_one, pBin, binA, intOp_eql, intOp_lss, intOp_leq, pPick, List.length_cons, List.length_nil, List.getElem?_cons_zero, List.getElem?_cons_succ, List.drop_zero, List.drop_succ_cons, List.take_succ_cons, List.take_zero, Nat.zero_add, Nat.reduceAdd, Nat.reduceLT, Nat.reduceLeDiff, Nat.reduceEqDiff, Nat.add_eq, loadA_w, loadW_s, binA, beq_self_eq_true, stepOp, stV_mk, sz2, ag2, sz9, ag9, Tryz.underlying9, Tryz.underlying217, stepAny, wantedA_none, rCall, rLen, rLen1_str, lenA, Tget_set, ht1, ht3, hc0, lt_f hil, hl1] <;> rfl)) | (with_reducible rw [ifQ_t]) | (with_reducible rw [ifQ_f]) | (with_reducible refine ifQ_intro ?_ ?_ <;> intro hb))
          subst hQ
          refine ret_back (by simp only [Tryz.results167, resultOf, resultsA, resultA, List.toList_toArray, Fr.ev, Tget_set, ↓reduceIte] <;> rfl) ⟨_, out_b ?_, ?_⟩
          · simp [vOk, hl]; exact hall
          repeat (first | exact Same.base _ _ _ | exact hS | refine Same.hset hw ?_ (ky_le _ _))
        · have hl1 : decide ((t.length : Int) ≤ 64) = false := decide_eq_false (by omega)
          repeat' (first | with_reducible (first | refine r_seq ?_ | refine r_next ?_ | refine r_block ?_ | refine r_seq_exit ?_ | refine r_seq_ret ?_ | refine r_blk_n ?_ | refine r_blk_ret ?_ | refine r_blk_hit ?_ | refine r_blk_miss rfl ?_ | refine r_skip ?_ | refine r_exit ?_ | refine r_ret ?_ | refine r_rq_exit ?_ | refine r_rq_ret ?_) | ((with_reducible apply r_regA); (focus (exact sd2)); (focus (exact sd1))) | ((with_reducible refine r_reg (List.toList_toArray) ?_ ?_); focus (exact sd1)) | ((with_reducible apply r_end); focus (exact sd4)) | ((with_reducible (first | apply r_any | apply r_cond)); focus (simp only [↓reduceIte, wantedA_eq, gBool_t, clsOf, clsCall, Fr.ev, ofV, ofA, ofS, put_mk, pureOp, readOp, pFA, pFA1, pFA2, rLd, rdAB_row, oneCell_one, pBin, binA, intOp_eql, intOp_lss, intOp_leq, pPick, List.length_cons, List.length_nil, List.getElem?_cons_zero, List.getElem?_cons_succ, List.drop_zero, List.drop_succ_cons, List.take_succ_cons, List.take_zero, Nat.zero_add, Nat.reduceAdd, Nat.reduceLT, Nat.reduceLeDiff, Nat.reduceEqDiff, Nat.add_eq, loadA_w, loadW_s, binA, beq_self_eq_true, stepOp, stV_mk, sz2, ag2, sz9, ag9, Tryz.underlying9, Tryz.underlying217, stepAny, wantedA_none, rCall, rLen, rLen1_str, lenA, Tget_set, ht1, ht3, hc0, lt_f hil, hl1] <;> rfl)) | (with_reducible rw [ifQ_t]) | (with_reducible rw [ifQ_f]) | (with_reducible refine ifQ_intro ?_ ?_ <;> intro hb))
          subst hQ
          refine ret_back (by simp only [Tryz.results167, resultOf, resultsA, resultA, List.toList_toArray, Fr.ev, Tget_set, ↓reduceIte] <;> rfl) ⟨_, out_f ?_, ?_⟩
          · simp [vOk, hl]
          repeat (first | exact Same.base _ _ _ | exact hS | refine Same.hset hw ?_ (ky_le _ _))
      · have hn0 : (n == 0) = false := by simp [n0]
        repeat' (first | with_reducible (first | refine r_seq ?_ | refine r_next ?_ | refine r_block ?_ | refine r_seq_exit ?_ | refine r_seq_ret ?_ | refine r_blk_n ?_ | refine r_blk_ret ?_ | refine r_blk_hit ?_ | refine r_blk_miss rfl ?_ | refine r_skip ?_ | refine r_exit ?_ | refine r_ret ?_ | refine r_rq_exit ?_ | refine r_rq_ret ?_) | ((with_reducible apply r_regA); (focus (exact sd2)); (focus (exact sd1))) | ((with_reducible refine r_reg (List.toList_toArray) ?_ ?_); focus (exact sd1)) | ((with_reducible apply r_end); focus (exact sd4)) | ((with_reducible (first | apply r_any | apply r_cond)); focus (simp only [↓reduceIte, wantedA_eq, gBool_t, clsOf, clsCall, Fr.ev, ofV, ofA, ofS, put_mk, pureOp, readOp, pFA, pFA1, pFA2, rLd, rdAB_row, oneCell_one, pBin, binA, intOp_eql, intOp_lss, pPick, List.length_cons, List.length_nil, List.getElem?_cons_zero, List.getElem?_cons_succ, List.drop_zero, List.drop_succ_cons, List.take_succ_cons, List.take_zero, Nat.zero_add, Nat.reduceAdd, Nat.reduceLT, Nat.reduceLeDiff, Nat.reduceEqDiff, Nat.add_eq, loadA_w, loadW_s, binA, stepOp, stV_mk, sz2, ag2, sz9, ag9, Tryz.underlying9, Tryz.underlying217, stepAny, wantedA_none, rCall, rLen, rLen1_str, lenA, Tget_set, ht1, ht3, hc0, lt_f hil, hn0] <;> rfl)) | (with_reducible rw [ifQ_t]) | (with_reducible rw [ifQ_f]) | (with_reducible refine ifQ_intro ?_ ?_ <;> intro hb))
        subst hQ
        refine ret_back (by simp only [Tryz.results167, resultOf, resultsA, resultA, List.toList_toArray, Fr.ev, Tget_set, ↓reduceIte] <;> rfl) ⟨_, out_f ?_, ?_⟩
        · simp [vOk, n0]
        repeat (first | exact Same.base _ _ _ | exact hS | refine Same.hset hw ?_ (ky_le _ _))

theorem vvalid_ok (h : Heap) (F : Nat) (k n : Int) (t : List UInt8) (ht : t.length ≤ maxLen) : Snd Tryz.prog [] 167 [.agg [.int .i64 k, .int .i64 n, .str t]] ⟨h, F⟩ [.val (.bool (dec (vOk k n t))) ⟨h, F⟩] := by
  by_cases k2 : k = 2
  · subst k2; exact vv_text h F n t ht
  refine snd_val (by simp [Kin]) fun hw => ?_
  have hlen := lenOk_t ht
  have hln : t.length ≤ 64 → decide ((t.length : Int) ≤ 64) = true := fun h => decide_eq_true (by omega)
  have hlf : ¬ t.length ≤ 64 → decide ((t.length : Int) ≤ 64) = false := fun h => decide_eq_false (by omega)
  by_cases k0 : k = 0
  · subst k0
    by_cases n0 : n = 0
    · subst n0
      refine sndQ_body (K := K2) k2_ok mixed noNum (m := 0) Tryz.func167 ?_
      generalize hQ : retQ _ _ _ _ _ _ = Q0
      refine body_go (c := Tryz.f167.body.getD .skip) (n := 45) rfl rfl (by simp only [↓reduceIte, T.setList, T.set_e] <;> rfl) ?_
      simp only [Tryz.f167, Option.getD_some]
      repeat' (first | with_reducible (first | refine r_seq ?_ | refine r_next ?_ | refine r_block ?_ | refine r_seq_exit ?_ | refine r_seq_ret ?_ | refine r_blk_n ?_ | refine r_blk_ret ?_ | refine r_blk_hit ?_ | refine r_blk_miss rfl ?_ | refine r_skip ?_ | refine r_exit ?_ | refine r_ret ?_ | refine r_rq_exit ?_ | refine r_rq_ret ?_) | ((with_reducible apply r_regA); (focus (exact sd2)); (focus (exact sd1))) | ((with_reducible refine r_reg (List.toList_toArray) ?_ ?_); focus (exact sd1)) | ((with_reducible apply r_end); focus (exact sd4)) | ((with_reducible (first | apply r_any | apply r_cond)); focus (simp only [↓reduceIte, wantedA_eq, gBool_t, clsOf, newBlk, allocOp, Fr.ev, ofV, ofA, ofS, nVar, AV.cells, rowOf_mk, put_mk, upd_mk, keyOf_mk, pureOp, readOp, pFA, pFA1, pFA2, rLd, rdAB_row, oneCell_one, hget_same, pBin, binA, intOp_eql, pPick, List.length_cons, List.length_nil, List.getElem?_cons_zero, List.getElem?_cons_succ, List.drop_zero, List.drop_succ_cons, List.take_succ_cons, List.take_zero, Nat.zero_add, Nat.add_zero, Nat.reduceAdd, Nat.reduceLT, Nat.reduceLeDiff, Nat.reduceEqDiff, Nat.reduceSub, Nat.add_eq, loadA_w, loadW_s, binA, beq_self_eq_true, stepOp, stV_mk, stB_mk, T.get_n, T.set_n, T.set_e, Nat.reduceDiv, Nat.reduceMod, sz2, ag2, sz3, ag3, sz9, ag9, Tryz.underlying217, stepAny, wantedA_none, strOp] <;> rfl)) | (with_reducible rw [ifQ_t]) | (with_reducible rw [ifQ_f]) | (with_reducible refine ifQ_intro ?_ ?_ <;> intro hb))
      subst hQ
      refine ret_back (by simp only [Tryz.results167, resultOf, resultsA, resultA, List.toList_toArray, Fr.ev, T.get_n, Nat.reduceDiv, Nat.reduceMod, Nat.reduceSub, Nat.reduceEqDiff, ↓reduceIte] <;> rfl) ⟨_, out_b ?_, ?_⟩
      · simp [vOk]
      repeat (first | exact Same.base _ _ _ | exact Same.refl _ | refine Same.hset hw ?_ (ky_le _ _))
    · have hn0 : (n == 0) = false := by simp [n0]
      refine sndQ_body (K := K2) k2_ok mixed noNum (m := 0) Tryz.func167 ?_
      generalize hQ : retQ _ _ _ _ _ _ = Q0
      refine body_go (c := Tryz.f167.body.getD .skip) (n := 45) rfl rfl (by simp only [↓reduceIte, T.setList, T.set_e] <;> rfl) ?_
      simp only [Tryz.f167, Option.getD_some]
      repeat' (first | with_reducible (first | refine r_seq ?_ | refine r_next ?_ | refine r_block ?_ | refine r_seq_exit ?_ | refine r_seq_ret ?_ | refine r_blk_n ?_ | refine r_blk_ret ?_ | refine r_blk_hit ?_ | refine r_blk_miss rfl ?_ | refine r_skip ?_ | refine r_exit ?_ | refine r_ret ?_ | refine r_rq_exit ?_ | refine r_rq_ret ?_) | ((with_reducible apply r_regA); (focus (exact sd2)); (focus (exact sd1))) | ((with_reducible refine r_reg (List.toList_toArray) ?_ ?_); focus (exact sd1)) | ((with_reducible apply r_end); focus (exact sd4)) | ((with_reducible (first | apply r_any | apply r_cond)); focus (simp only [↓reduceIte, wantedA_eq, gBool_t, clsOf, newBlk, allocOp, Fr.ev, ofV, ofA, ofS, nVar, AV.cells, rowOf_mk, put_mk, upd_mk, keyOf_mk, pureOp, readOp, pFA, pFA1, pFA2, rLd, rdAB_row, oneCell_one, hget_same, pBin, binA, intOp_eql, pPick, List.length_cons, List.length_nil, List.getElem?_cons_zero, List.getElem?_cons_succ, List.drop_zero, List.drop_succ_cons, List.take_succ_cons, List.take_zero, Nat.zero_add, Nat.add_zero, Nat.reduceAdd, Nat.reduceLT, Nat.reduceLeDiff, Nat.reduceEqDiff, Nat.reduceSub, Nat.add_eq, loadA_w, loadW_s, binA, beq_self_eq_true, stepOp, stV_mk, stB_mk, T.get_n, T.set_n, T.set_e, Nat.reduceDiv, Nat.reduceMod, sz2, ag2, sz3, ag3, Tryz.underlying217, stepAny, wantedA_none, hn0] <;> rfl)) | (with_reducible rw [ifQ_t]) | (with_reducible rw [ifQ_f]) | (with_reducible refine ifQ_intro ?_ ?_ <;> intro hb))
      subst hQ
      refine ret_back (by simp only [Tryz.results167, resultOf, resultsA, resultA, List.toList_toArray, Fr.ev, T.get_n, Nat.reduceDiv, Nat.reduceMod, Nat.reduceSub, Nat.reduceEqDiff, ↓reduceIte] <;> rfl) ⟨_, out_f ?_, ?_⟩
      · simp [vOk, n0]
      repeat (first | exact Same.base _ _ _ | exact Same.refl _ | refine Same.hset hw ?_ (ky_le _ _))
  by_cases k1 : k = 1
  · subst k1
    refine sndQ_body (K := K2) k2_ok mixed noNum (m := 0) Tryz.func167 ?_
    generalize hQ : retQ _ _ _ _ _ _ = Q0
    refine body_go (c := Tryz.f167.body.getD .skip) (n := 45) rfl rfl (by simp only [↓reduceIte, T.setList, T.set_e] <;> rfl) ?_
    simp only [Tryz.f167, Option.getD_some]
    repeat' (first | with_reducible (first | refine r_seq ?_ | refine r_next ?_ | refine r_block ?_ | refine r_seq_exit ?_ | refine r_seq_ret ?_ | refine r_blk_n ?_ | refine r_blk_ret ?_ | refine r_blk_hit ?_ | refine r_blk_miss rfl ?_ | refine r_skip ?_ | refine r_exit ?_ | refine r_ret ?_ | refine r_rq_exit ?_ | refine r_rq_ret ?_) | ((with_reducible apply r_regA); (focus (exact sd2)); (focus (exact sd1))) | ((with_reducible refine r_reg (List.toList_toArray) ?_ ?_); focus (exact sd1)) | ((with_reducible apply r_end); focus (exact sd4)) | ((with_reducible (first | apply r_any | apply r_cond)); focus (simp only [↓reduceIte, clsOf, newBlk, allocOp, Fr.ev, ofV, ofA, ofS, nVar, AV.cells, rowOf_mk, put_mk, upd_mk, keyOf_mk, pureOp, readOp, pFA, pFA1, pFA2, rLd, rdAB_row, oneCell_one, hget_same, pBin, binA, intOp_eql, List.length_cons, List.length_nil, List.getElem?_cons_zero, List.getElem?_cons_succ, List.drop_zero, List.drop_succ_cons, List.take_succ_cons, List.take_zero, Nat.zero_add, Nat.add_zero, Nat.reduceAdd, Nat.reduceLT, Nat.reduceLeDiff, Nat.reduceEqDiff, Nat.reduceSub, Nat.add_eq, loadA_w, loadW_s, binA, beq_self_eq_true, Int.reduceBEq, stepOp, stV_mk, stB_mk, T.get_n, T.set_n, T.set_e, Nat.reduceDiv, Nat.reduceMod, sz3, ag3, sz9, ag9, Tryz.underlying217, stepAny, wantedA_none, strOp] <;> rfl)) | (with_reducible rw [ifQ_t]) | (with_reducible rw [ifQ_f]) | (with_reducible refine ifQ_intro ?_ ?_ <;> intro hb))
    subst hQ
    refine ret_back (by simp only [Tryz.results167, resultOf, resultsA, resultA, List.toList_toArray, Fr.ev, T.get_n, Nat.reduceDiv, Nat.reduceMod, Nat.reduceSub, Nat.reduceEqDiff, ↓reduceIte] <;> rfl) ⟨_, out_b ?_, ?_⟩
    · simp [vOk]
    repeat (first | exact Same.base _ _ _ | exact Same.refl _ | refine Same.hset hw ?_ (ky_le _ _))
  have hk0 : (k == 0) = false := by simp [k0]
  have hk1 : (k == 1) = false := by simp [k1]
  have hk2 : (k == 2) = false := by simp [k2]
  refine sndQ_body (K := K2) k2_ok mixed noNum (m := 0) Tryz.func167 ?_
  generalize hQ : retQ _ _ _ _ _ _ = Q0
  refine body_go (c := Tryz.f167.body.getD .skip) (n := 45) rfl rfl (by simp only [↓reduceIte, T.setList, T.set_e] <;> rfl) ?_
  simp only [Tryz.f167, Option.getD_some]
  repeat' (first | with_reducible (first | refine r_seq ?_ | refine r_next ?_ | refine r_block ?_ | refine r_seq_exit ?_ | refine r_seq_ret ?_ | refine r_blk_n ?_ | refine r_blk_ret ?_ | refine r_blk_hit ?_ | refine r_blk_miss rfl ?_ | refine r_skip ?_ | refine r_exit ?_ | refine r_ret ?_ | refine r_rq_exit ?_ | refine r_rq_ret ?_) | ((with_reducible apply r_regA); (focus (exact sd2)); (focus (exact sd1))) | ((with_reducible refine r_reg (List.toList_toArray) ?_ ?_); focus (exact sd1)) | ((with_reducible apply r_end); focus (exact sd4)) | ((with_reducible (first | apply r_any | apply r_cond)); focus (simp only [↓reduceIte, clsOf, newBlk, allocOp, Fr.ev, ofV, ofA, ofS, nVar, AV.cells, rowOf_mk, put_mk, upd_mk, keyOf_mk, pureOp, readOp, pFA, pFA1, pFA2, rLd, rdAB_row, oneCell_one, hget_same, pBin, binA, intOp_eql, List.length_cons, List.length_nil, List.getElem?_cons_zero, List.drop_zero, List.take_succ_cons, List.take_zero, Nat.zero_add, Nat.add_zero, Nat.reduceAdd, Nat.reduceLT, Nat.reduceLeDiff, Nat.reduceEqDiff, Nat.reduceSub, Nat.add_eq, loadA_w, loadW_s, binA, stepOp, stV_mk, stB_mk, T.get_n, T.set_n, T.set_e, Nat.reduceDiv, Nat.reduceMod, sz3, ag3, Tryz.underlying217, stepAny, wantedA_none, hk0, hk1, hk2] <;> rfl)) | (with_reducible rw [ifQ_t]) | (with_reducible rw [ifQ_f]) | (with_reducible refine ifQ_intro ?_ ?_ <;> intro hb))
  subst hQ
  refine ret_back (by simp only [Tryz.results167, resultOf, resultsA, resultA, List.toList_toArray, Fr.ev, T.get_n, Nat.reduceDiv, Nat.reduceMod, Nat.reduceSub, Nat.reduceEqDiff, ↓reduceIte] <;> rfl) ⟨_, out_f ?_, ?_⟩
  · simp [vOk, k0, k1, k2]
  repeat (first | exact Same.base _ _ _ | exact Same.refl _ | refine Same.hset hw ?_ (ky_le _ _))

end Go.Proofs.YtfhgiadogeephaaGreatDoor

namespace Go.Proofs.YtfhgiadogeephaaGreatDoor
open Go Go.Ai
set_option maxRecDepth 100000

section
variable {S : FuncId → List AV → St → Out → Prop}
theorem k_valid {h : Heap} {F : Nat} {k n : Int} {t : List UInt8} (ht : t.length ≤ maxLen) : CallF.fn (KT S) 154 [.agg [.int .i64 k, .int .i64 n, .str t]] ⟨h, F⟩ = some [.val (.bool (dec (vOk k n t))) ⟨h, F⟩] := kt_fn rfl (snd_glob (valid_ok h F k n t ht))
theorem k_vvalid {h : Heap} {F : Nat} {k n : Int} {t : List UInt8} (ht : t.length ≤ maxLen) : CallF.fn (KT S) 167 [.agg [.int .i64 k, .int .i64 n, .str t]] ⟨h, F⟩ = some [.val (.bool (dec (vOk k n t))) ⟨h, F⟩] := kt_fn rfl (snd_glob (vvalid_ok h F k n t ht))
theorem codeV_t {k n : Int} {t : List UInt8} (h : vOk k n t) : codeV k n t = 0 := by unfold codeV; rw [if_pos h]
theorem codeV_f {k n : Int} {t : List UInt8} (h : ¬ vOk k n t) : codeV k n t = 20 := by unfold codeV; rw [if_neg h]
theorem by5 : bytesT Tryz.prog 5 = some 1 := by kernel_rfl
theorem zo5 : zeroOk Tryz.prog 5 1 1 = true := by kernel_rfl
theorem tA5 : tagA Tryz.prog 5 = 5 + 1 := by kernel_rfl
theorem pIx_s {h : TypeId} {t : List UInt8} {i : Nat} {c : UInt8} (hu : Tryz.prog.underlying h = some .string) (hc : t[i]? = some c) : pIx Tryz.prog h (some (.str t)) (some (.int .i64 (i : Int))) = some (.int .u8 (c.toNat : Int)) := by
  have h1 : natOf (.int .i64 (i : Int)) = some i := rfl
  simp only [pIx, h1, pIx1, hu, pIx2, hc]
theorem esc_t {c : UInt8} (h : c.toNat = 34 ∨ c.toNat = 92) : escB c = [92, c] := by unfold escB; rw [if_pos h]
theorem esc_f {c : UInt8} (h : ¬ (c.toNat = 34 ∨ c.toNat = 92)) : escB c = [c] := by unfold escB; rw [if_neg h]
set_option maxHeartbeats 4000000 in
theorem print_text (h : Heap) (F : Nat) (n : Int) (t : List UInt8) (hv : vOk 2 n t) : Snd Tryz.prog GL 101 [.agg [.int .i64 2, .int .i64 n, .str t]] ⟨h, F⟩ [.val (.tup [.str (34 :: (escL t ++ [34])), .int .i64 0]) ⟨h, F⟩] := by
  refine snd_val (by simp [Kin, Kins]) fun hw => ?_
  have mxl : maxLen = 9223372036854775807 := by decide
  have ht64 : t.length ≤ 64 := by rcases hv with h | h | h <;> simp_all
  have ht : t.length ≤ maxLen := by omega
  have nb := fun (key : Nat) (c : Int) => nBS_by (P := Tryz.prog) (key := key) (c := c) sz5 zr5
  refine sndQ_body (K := (KT S0)) kt_ok mixed noNum (m := 101) Tryz.func101 ?_
  generalize hQ : retQ _ _ _ _ _ _ = Q0
  refine body_go (c := Tryz.f101.body.getD .skip) (n := 55) rfl rfl (by simp only [↓reduceIte, T.setList, T.set_e] <;> rfl) ?_
  simp only [Tryz.f101, Option.getD_some]
  repeat' (first | with_reducible (first | refine r_seq ?_ | refine r_next ?_ | refine r_block ?_ | refine r_seq_exit ?_ | refine r_seq_ret ?_ | refine r_blk_n ?_ | refine r_blk_ret ?_ | refine r_blk_hit ?_ | refine r_blk_miss rfl ?_ | refine r_skip ?_ | refine r_exit ?_ | refine r_ret ?_ | refine r_rq_exit ?_ | refine r_rq_ret ?_) | ((with_reducible apply r_regA); (focus (exact sd2)); (focus (exact sd1))) | ((with_reducible refine r_reg (List.toList_toArray) ?_ ?_); focus (exact sd1)) | ((with_reducible apply r_end); focus (exact sd4)) | ((with_reducible (first | apply r_move | apply r_assign)); (focus (exact sd3)); (focus (exact sd7))) | ((with_reducible apply r_condT); (focus (exact sd3))) | ((with_reducible (first | apply r_any | apply r_cond)); focus (simp only [↓reduceIte, Bool.not_true, clsOf, clsCall, newBlk, allocOp, Fr.ev, evs, evParts, ofV, ofA, ofS, nVar, AV.cells, rowOf_mk, put_mk, upd_mk, keyOf_mk, ky_inj, pureOp, readOp, pFA, pFA1, pFA2, rLd, rdAB_row, oneCell_one, someAgg_s, hget_same, hget_hset_ite, pBin, binA, intOp_eql, List.length_cons, List.length_nil, List.getElem?_cons_zero, List.getElem?_cons_succ, List.drop_zero, List.drop_succ_cons, List.take_succ_cons, List.take_zero, Nat.zero_add, Nat.add_zero, Nat.reduceAdd, Nat.reduceLT, Nat.reduceLeDiff, Nat.reduceEqDiff, Nat.reduceSub, Nat.add_eq, loadA_w, loadW_a, loadW_s, pUn_not, callTo_s, heavyCall, target, List.nil_append, List.append_nil, binA, Int.reduceBEq, stepOp, stHeavy, stV_mk, stB_mk, stO_mk, T.get_n, T.set_n, T.set_e, Nat.reduceDiv, Nat.reduceMod, sz3, ag3, sz9, ag9, Tryz.underlying9, Tryz.underlying22, sz217, ag217, Tryz.underlying217, stepAny, wantedA_none, rCall, rLen, rLen1_str, lenA, k_valid ht, dec_t hv, nb, tA5] <;> rfl)) | (with_reducible rw [ifQ_t]) | (with_reducible rw [ifQ_f]) | (with_reducible refine ifQ_intro ?_ ?_ <;> intro hb))
  refine r_loop (I := fun nn fr s1 => ∃ lc tt h1 i out co, fr = ⟨F, lc, 55, tt, [], .no⟩ ∧ s1 = ⟨h1, F + 1⟩ ∧ i ≤ t.length ∧ nn = t.length - i ∧ 2 ≤ lc ∧ lc + nn * 1000 ≤ 100000000000000000000000000 ∧ 0 < co ∧ co < lc ∧ Low F h h1 ∧ tt.get 1 = some (.ptr (ky F 0) 0) ∧ tt.get 4 = some out ∧ tt.get 24 = some (.int .i64 (t.length : Int)) ∧ tt.get 25 = some (.int .i64 (i : Int)) ∧ hget h1 (ky F 0) = some (mkRow [.int .i64 2, .int .i64 n, .str t] 0) ∧ OutB Tryz.prog h1 5 F co out (34 :: escL (t.take i))) (n := t.length) ?_ ?_ ?_
  · omega
  · refine ⟨_, _, _, 0, _, _, rfl, rfl, Nat.zero_le _, (Nat.sub_zero _).symm, by omega, by omega, ?_, ?_, ?_, (by first | (simp only [T.get_n, Nat.reduceEqDiff, Nat.reduceDiv, Nat.reduceMod, ↓reduceIte] <;> rfl) | rfl), (by first | (simp only [T.get_n, Nat.reduceEqDiff, Nat.reduceDiv, Nat.reduceMod, Nat.reduceSub, ↓reduceIte] <;> rfl) | rfl), (by first | (simp only [T.get_n, Nat.reduceEqDiff, Nat.reduceDiv, Nat.reduceMod, Nat.reduceSub, ↓reduceIte] <;> rfl) | rfl), (by first | (simp only [T.get_n, Nat.reduceEqDiff, Nat.reduceDiv, Nat.reduceMod, Nat.reduceSub, ↓reduceIte] <;> rfl) | rfl), ?_, ⟨some 1, by simp, rfl, .inr ⟨rfl, rfl⟩, ?_⟩⟩
    rotate_right
    · rw [hget_hset, if_pos rfl, tA5]; rfl
    · decide
    · decide
    · exact ((Low.refl F h).set (Nat.le_refl F)).set (Nat.le_refl F)
    · rw [hget_hset, if_neg (by rw [ky_inj]; omega), hget_hset, if_pos rfl]
  rintro nn fr s1 ⟨lc, tt, h1, i, out, co, rfl, rfl, hi, rfl, hl0, hlc, hco0, hco, hlow, u1, u4, u24, u25, c0, hO⟩
  have hel := escL_len (t.take i)
  rw [List.length_take] at hel
  by_cases hil : i < t.length
  · obtain ⟨c, hc⟩ : ∃ c, t[i]? = some c := ⟨t[i], by simp⟩
    have ix := pIx_s (h := 9) Tryz.underlying9 hc
    have hst := escL_take hc
    by_cases hq : c.toNat = 34 ∨ c.toNat = 92
    · have e1 : (((c.toNat : Nat) : Int) == 34) = true ∨ ((((c.toNat : Nat) : Int) == 34) = false ∧ (((c.toNat : Nat) : Int) == 92) = true) := by
        rcases hq with h | h
        · exact .inl (beq_iff_eq.2 (by omega))
        · exact .inr ⟨beq_eq_false_iff_ne.2 (by omega), beq_iff_eq.2 (by omega)⟩
      obtain ⟨h3, a1, a1g, a1k⟩ := app_out (P := Tryz.prog) (t := 22) (t2 := 22) (key := ky F (lc + 15 + 2)) (F := F) (c := co) (f := F + 1) (h := (hset h1 (ky F (lc + 15 + 1)) (mkRowT (5 + 1) [.int .u8 92] 1))) (b := .slice (ky F (lc + 15 + 1)) 0 0 1 (some 1)) (x := [(92 : UInt8)]) (out := out) (l := 34 :: escL (t.take i)) Tryz.underlying22 Tryz.underlying22 sz5 by5 zo5 (src_row (x := [(92 : UInt8)]) (tg := 5 + 1) (by rw [hget_hset, if_pos rfl]; rfl)) (by simp) (by simp only [List.length_cons, List.length_nil]; omega) (by omega) (hO.move (by rw [hget_hset, if_neg (by rw [ky_inj]; omega)]))
      obtain ⟨h5, a2, a2g, a2k⟩ := app_out (P := Tryz.prog) (t := 22) (t2 := 22) (key := ky F (lc + 19 + 6)) (F := F) (c := lc + 15 + 2) (f := F + 1) (h := (hset h3 (ky F (lc + 19 + 5)) (mkRowT (5 + 1) [.int .u8 (c.toNat : Int)] 1))) (b := .slice (ky F (lc + 19 + 5)) 0 0 1 (some 1)) (x := [c]) (out := (.slice (ky F (lc + 15 + 2)) 0 0 ((34 :: escL (t.take i)) ++ [92]).length none)) (l := (34 :: escL (t.take i)) ++ [92]) Tryz.underlying22 Tryz.underlying22 sz5 by5 zo5 (src_row (x := [c]) (tg := 5 + 1) (by rw [hget_hset, if_pos rfl]; rfl)) (by simp) (by simp only [List.length_cons, List.length_append, List.length_nil]; omega) (by omega) (OutB.move ⟨none, by simp, rfl, .inl rfl, a1g⟩ (by rw [hget_hset, if_neg (by rw [ky_inj]; omega)]))
      have c02 : hget h3 (ky F 0) = some (mkRow [.int .i64 2, .int .i64 n, .str t] 0) := by
        rw [a1k _ (by rw [Ne, ky_inj]; omega) (by rw [Ne, ky_inj]; omega), hget_hset, if_neg (by rw [ky_inj]; omega)]; exact c0
      have fin : ∃ lc' : Nat, True := ⟨0, trivial⟩
      rcases e1 with e1 | ⟨e1, e2⟩
      · repeat' (first | with_reducible (first | refine r_seq ?_ | refine r_next ?_ | refine r_block ?_ | refine r_seq_exit ?_ | refine r_seq_ret ?_ | refine r_blk_n ?_ | refine r_blk_ret ?_ | refine r_blk_hit ?_ | refine r_blk_miss rfl ?_ | refine r_skip ?_ | refine r_exit ?_ | refine r_ret ?_ | refine r_rq_exit ?_ | refine r_rq_ret ?_) | ((with_reducible apply r_regA); (focus (exact sd2)); (focus (exact sd1))) | ((with_reducible refine r_reg (List.toList_toArray) ?_ ?_); focus (exact sd1)) | ((with_reducible apply r_end); focus (exact sd4)) | ((with_reducible (first | apply r_move | apply r_assign)); (focus (simp only [Tget_set, Nat.reduceEqDiff, ↓reduceIte, u4, u25] <;> rfl)); (focus (exact sd7))) | ((with_reducible apply r_condT); (focus (exact sd3))) | ((with_reducible (first | apply r_any | apply r_cond)); focus (simp only [↓reduceIte, wantedA_eq, gBool_f, Bool.not_true, clsOf, clsCall, newBlk, allocOp, Fr.ev, evParts, ofV, ofA, ofS, put_mk, upd_mk, keyOf_mk, pureOp, readOp, pFA, pFA1, pFA2, rLd, rdAB_row, oneCell_one, pBin, binA, intOp_eql, intOp_lss, pPick, List.length_cons, List.length_nil, List.getElem?_cons_zero, List.getElem?_cons_succ, List.drop_zero, List.drop_succ_cons, List.take_succ_cons, List.take_zero, Nat.zero_add, Nat.reduceAdd, Nat.reduceLT, Nat.reduceLeDiff, Nat.reduceEqDiff, Nat.add_eq, loadA_w, loadW_s, heavyCall, binA, stepOp, stHeavy, stV_mk, stB_mk, stO_mk, sz9, ag9, Tryz.underlying22, Tryz.underlying217, stepAny, wantedA_none, Tget_set, u1, u24, u25, c0, lt_t hil, ix, nb, tA5, aBuiltin, aApp, aApp2, outOf, intOp_add (inR_succ hil ht), e1, c02, a1, a2] <;> rfl)) | (with_reducible rw [ifQ_t]) | (with_reducible rw [ifQ_f]) | (with_reducible refine ifQ_intro ?_ ?_ <;> intro hb))
        have hnew : (34 :: escL (t.take i)) ++ [92] ++ [c] = 34 :: escL (t.take (i + 1)) := by rw [hst, esc_t hq]; simp
        rw [hnew] at a2g ⊢
        refine r_rq_n (k := t.length - (i + 1)) (by omega) ⟨_, _, _, i + 1, _, lc + 19 + 6, rfl, rfl, by omega, rfl, by omega, by omega, by omega, by omega, ?_, (by first | (simp only [Tget_set, Nat.reduceEqDiff, ↓reduceIte, u1] <;> rfl) | rfl), (by first | (simp only [Tget_set, Nat.reduceEqDiff, ↓reduceIte] <;> rfl) | rfl), (by first | (simp only [Tget_set, Nat.reduceEqDiff, ↓reduceIte, u24] <;> rfl) | rfl), (by first | (simp only [Tget_set, ↓reduceIte] <;> rfl) | rfl), ?_, ⟨none, by simp, rfl, .inl rfl, a2g⟩⟩
        · intro j hj
          rw [a2k j (by unfold ky at *; omega) (by unfold ky at *; omega), hget_hset, if_neg (by unfold ky at *; omega), a1k j (by unfold ky at *; omega) (by unfold ky at *; omega), hget_hset, if_neg (by unfold ky at *; omega)]
          exact hlow j hj
        · rw [a2k _ (by rw [Ne, ky_inj]; omega) (by rw [Ne, ky_inj]; omega), hget_hset, if_neg (by rw [ky_inj]; omega)]; exact c02
      · repeat' (first | with_reducible (first | refine r_seq ?_ | refine r_next ?_ | refine r_block ?_ | refine r_seq_exit ?_ | refine r_seq_ret ?_ | refine r_blk_n ?_ | refine r_blk_ret ?_ | refine r_blk_hit ?_ | refine r_blk_miss rfl ?_ | refine r_skip ?_ | refine r_exit ?_ | refine r_ret ?_ | refine r_rq_exit ?_ | refine r_rq_ret ?_) | ((with_reducible apply r_regA); (focus (exact sd2)); (focus (exact sd1))) | ((with_reducible refine r_reg (List.toList_toArray) ?_ ?_); focus (exact sd1)) | ((with_reducible apply r_end); focus (exact sd4)) | ((with_reducible (first | apply r_move | apply r_assign)); (focus (simp only [Tget_set, Nat.reduceEqDiff, ↓reduceIte, u4, u25] <;> rfl)); (focus (exact sd7))) | ((with_reducible apply r_condT); (focus (exact sd3))) | ((with_reducible (first | apply r_any | apply r_cond)); focus (simp only [↓reduceIte, wantedA_eq, gBool_f, Bool.not_false, clsOf, clsCall, newBlk, allocOp, Fr.ev, evParts, ofV, ofA, ofS, put_mk, upd_mk, keyOf_mk, pureOp, readOp, pFA, pFA1, pFA2, rLd, rdAB_row, oneCell_one, pBin, binA, intOp_eql, intOp_lss, pPick, List.length_cons, List.length_nil, List.getElem?_cons_zero, List.getElem?_cons_succ, List.drop_zero, List.drop_succ_cons, List.take_succ_cons, List.take_zero, Nat.zero_add, Nat.reduceAdd, Nat.reduceLT, Nat.reduceLeDiff, Nat.reduceEqDiff, Nat.add_eq, loadA_w, loadW_s, heavyCall, binA, stepOp, stHeavy, stV_mk, stB_mk, stO_mk, sz9, ag9, Tryz.underlying22, Tryz.underlying217, stepAny, wantedA_none, Tget_set, u1, u24, u25, c0, lt_t hil, ix, nb, tA5, aBuiltin, aApp, aApp2, outOf, intOp_add (inR_succ hil ht), e1, e2, c02, a1, a2] <;> rfl)) | (with_reducible rw [ifQ_t]) | (with_reducible rw [ifQ_f]) | (with_reducible refine ifQ_intro ?_ ?_ <;> intro hb))
        have hnew : (34 :: escL (t.take i)) ++ [92] ++ [c] = 34 :: escL (t.take (i + 1)) := by rw [hst, esc_t hq]; simp
        rw [hnew] at a2g ⊢
        refine r_rq_n (k := t.length - (i + 1)) (by omega) ⟨_, _, _, i + 1, _, lc + 19 + 6, rfl, rfl, by omega, rfl, by omega, by omega, by omega, by omega, ?_, (by first | (simp only [Tget_set, Nat.reduceEqDiff, ↓reduceIte, u1] <;> rfl) | rfl), (by first | (simp only [Tget_set, Nat.reduceEqDiff, ↓reduceIte] <;> rfl) | rfl), (by first | (simp only [Tget_set, Nat.reduceEqDiff, ↓reduceIte, u24] <;> rfl) | rfl), (by first | (simp only [Tget_set, ↓reduceIte] <;> rfl) | rfl), ?_, ⟨none, by simp, rfl, .inl rfl, a2g⟩⟩
        · intro j hj
          rw [a2k j (by unfold ky at *; omega) (by unfold ky at *; omega), hget_hset, if_neg (by unfold ky at *; omega), a1k j (by unfold ky at *; omega) (by unfold ky at *; omega), hget_hset, if_neg (by unfold ky at *; omega)]
          exact hlow j hj
        · rw [a2k _ (by rw [Ne, ky_inj]; omega) (by rw [Ne, ky_inj]; omega), hget_hset, if_neg (by rw [ky_inj]; omega)]; exact c02
    · have e1 : (((c.toNat : Nat) : Int) == 34) = false := beq_eq_false_iff_ne.2 (by omega)
      have e2 : (((c.toNat : Nat) : Int) == 92) = false := beq_eq_false_iff_ne.2 (by omega)
      obtain ⟨h3, a3, a3g, a3k⟩ := app_out (P := Tryz.prog) (t := 22) (t2 := 22) (key := ky F (lc + 15 + 6)) (F := F) (c := co) (f := F + 1) (h := (hset h1 (ky F (lc + 15 + 5)) (mkRowT (5 + 1) [.int .u8 (c.toNat : Int)] 1))) (b := .slice (ky F (lc + 15 + 5)) 0 0 1 (some 1)) (x := [c]) (out := out) (l := 34 :: escL (t.take i)) Tryz.underlying22 Tryz.underlying22 sz5 by5 zo5 (src_row (x := [c]) (tg := 5 + 1) (by rw [hget_hset, if_pos rfl]; rfl)) (by simp) (by simp only [List.length_cons, List.length_nil]; omega) (by omega) (hO.move (by rw [hget_hset, if_neg (by rw [ky_inj]; omega)]))
      repeat' (first | with_reducible (first | refine r_seq ?_ | refine r_next ?_ | refine r_block ?_ | refine r_seq_exit ?_ | refine r_seq_ret ?_ | refine r_blk_n ?_ | refine r_blk_ret ?_ | refine r_blk_hit ?_ | refine r_blk_miss rfl ?_ | refine r_skip ?_ | refine r_exit ?_ | refine r_ret ?_ | refine r_rq_exit ?_ | refine r_rq_ret ?_) | ((with_reducible apply r_regA); (focus (exact sd2)); (focus (exact sd1))) | ((with_reducible refine r_reg (List.toList_toArray) ?_ ?_); focus (exact sd1)) | ((with_reducible apply r_end); focus (exact sd4)) | ((with_reducible (first | apply r_move | apply r_assign)); (focus (simp only [Tget_set, Nat.reduceEqDiff, ↓reduceIte, u4, u25] <;> rfl)); (focus (exact sd7))) | ((with_reducible apply r_condT); (focus (exact sd3))) | ((with_reducible (first | apply r_any | apply r_cond)); focus (simp only [↓reduceIte, wantedA_eq, gBool_f, Bool.not_false, clsOf, clsCall, newBlk, allocOp, Fr.ev, evParts, ofV, ofA, ofS, put_mk, upd_mk, keyOf_mk, pureOp, readOp, pFA, pFA1, pFA2, rLd, rdAB_row, oneCell_one, pBin, binA, intOp_eql, intOp_lss, pPick, List.length_cons, List.length_nil, List.getElem?_cons_zero, List.getElem?_cons_succ, List.drop_zero, List.drop_succ_cons, List.take_succ_cons, List.take_zero, Nat.zero_add, Nat.reduceAdd, Nat.reduceLT, Nat.reduceLeDiff, Nat.reduceEqDiff, Nat.add_eq, loadA_w, loadW_s, heavyCall, binA, stepOp, stHeavy, stV_mk, stB_mk, stO_mk, sz9, ag9, Tryz.underlying22, Tryz.underlying217, stepAny, wantedA_none, Tget_set, u1, u24, u25, c0, lt_t hil, ix, nb, tA5, aBuiltin, aApp, aApp2, outOf, intOp_add (inR_succ hil ht), e1, e2, a3] <;> rfl)) | (with_reducible rw [ifQ_t]) | (with_reducible rw [ifQ_f]) | (with_reducible refine ifQ_intro ?_ ?_ <;> intro hb))
      have hnew : (34 :: escL (t.take i)) ++ [c] = 34 :: escL (t.take (i + 1)) := by rw [hst, esc_f hq]; rfl
      rw [hnew] at a3g ⊢
      refine r_rq_n (k := t.length - (i + 1)) (by omega) ⟨_, _, _, i + 1, _, lc + 15 + 6, rfl, rfl, by omega, rfl, by omega, by omega, by omega, by omega, ?_, (by first | (simp only [Tget_set, Nat.reduceEqDiff, ↓reduceIte, u1] <;> rfl) | rfl), (by first | (simp only [Tget_set, Nat.reduceEqDiff, ↓reduceIte] <;> rfl) | rfl), (by first | (simp only [Tget_set, Nat.reduceEqDiff, ↓reduceIte, u24] <;> rfl) | rfl), (by first | (simp only [Tget_set, ↓reduceIte] <;> rfl) | rfl), ?_, ⟨none, by simp, rfl, .inl rfl, a3g⟩⟩
      · intro j hj
        have hkF := ky_mono (Nat.le_refl F)
        rw [a3k j (by unfold ky at *; omega) (by unfold ky at *; omega), hget_hset, if_neg (by unfold ky at *; omega)]
        exact hlow j hj
      · rw [a3k _ (by rw [Ne, ky_inj]; omega) (by rw [Ne, ky_inj]; omega), hget_hset, if_neg (by rw [ky_inj]; omega)]; exact c0
  · have hend : i = t.length := by omega
    have htk : t.take i = t := by rw [hend]; exact List.take_length
    rw [htk] at hO hel
    obtain ⟨h4, a4, a4g, a4k⟩ := app_out (P := Tryz.prog) (t := 22) (t2 := 22) (key := ky F (lc + 1 + 2)) (F := F) (c := co) (f := F + 1) (h := (hset h1 (ky F (lc + 1 + 1)) (mkRowT (5 + 1) [.int .u8 34] 1))) (b := .slice (ky F (lc + 1 + 1)) 0 0 1 (some 1)) (x := [(34 : UInt8)]) (out := out) (l := 34 :: escL t) Tryz.underlying22 Tryz.underlying22 sz5 by5 zo5 (src_row (x := [(34 : UInt8)]) (tg := 5 + 1) (by rw [hget_hset, if_pos rfl]; rfl)) (by simp) (by simp only [List.length_cons, List.length_nil]; omega) (by omega) (hO.move (by rw [hget_hset, if_neg (by rw [ky_inj]; omega)]))
    have cv := rCv_by (P := Tryz.prog) (h := h4) (src := 22) (dst := 9) (cap := none) Tryz.underlying22 Tryz.underlying5 Tryz.underlying9 a4g
    repeat' (first | with_reducible (first | refine r_seq ?_ | refine r_next ?_ | refine r_block ?_ | refine r_seq_exit ?_ | refine r_seq_ret ?_ | refine r_blk_n ?_ | refine r_blk_ret ?_ | refine r_blk_hit ?_ | refine r_blk_miss rfl ?_ | refine r_skip ?_ | refine r_exit ?_ | refine r_ret ?_ | refine r_rq_exit ?_ | refine r_rq_ret ?_) | ((with_reducible apply r_regA); (focus (exact sd2)); (focus (exact sd1))) | ((with_reducible refine r_reg (List.toList_toArray) ?_ ?_); focus (exact sd1)) | ((with_reducible apply r_end); focus (exact sd4)) | ((with_reducible (first | apply r_move | apply r_assign)); (focus (simp only [Tget_set, Nat.reduceEqDiff, ↓reduceIte, u4] <;> rfl)); (focus (exact sd7))) | ((with_reducible apply r_condT); (focus (exact sd3))) | ((with_reducible (first | apply r_any | apply r_cond)); focus (simp only [↓reduceIte, clsOf, clsCall, newBlk, allocOp, Fr.ev, evParts, ofV, ofA, ofS, put_mk, upd_mk, keyOf_mk, pureOp, readOp, pBin, binA, intOp_lss, Nat.zero_add, Nat.reduceAdd, Nat.reduceLT, Nat.reduceEqDiff, heavyCall, binA, stepOp, stHeavy, stV_mk, stB_mk, stO_mk, Tryz.underlying22, stepAny, wantedA_none, Tget_set, u24, u25, lt_f hil, nb, tA5, aBuiltin, aApp, aApp2, outOf, a4, cv] <;> rfl)) | (with_reducible rw [ifQ_t]) | (with_reducible rw [ifQ_f]) | (with_reducible refine ifQ_intro ?_ ?_ <;> intro hb))
    subst hQ
    refine ret_back (by simp only [Tryz.results101, resultOf, resultsA, resultA, List.toList_toArray, Fr.ev, Tget_set, Nat.reduceEqDiff, ↓reduceIte] <;> rfl) ?_
    refine ⟨_, rfl, ?_⟩
    refine Low.same hw (h' := h4) fun j hj => ?_
    rw [a4k j (by unfold ky at *; omega) (by unfold ky at *; omega), hget_hset, if_neg (by unfold ky at *; omega)]
    exact hlow j hj

theorem vk_cases {k n : Int} {t : List UInt8} (hv : vOk k n t) (h0 : ¬ k = 0) (h1 : ¬ k = 1) : k = 2 := by rcases hv with h | h | h <;> omega
set_option maxHeartbeats 4000000 in
theorem pprint (h : Heap) (F : Nat) (k n : Int) (t : List UInt8) (hn : in64 n) (ht : t.length ≤ maxLen) : Snd Tryz.prog GL 101 [.agg [.int .i64 k, .int .i64 n, .str t]] ⟨h, F⟩ [.val (.tup [.str (printV k n t), .int .i64 (codeV k n t)]) ⟨h, F⟩] := by
  by_cases hv : vOk k n t
  · by_cases k1 : k = 1
    · subst k1
      refine snd_val (by simp [Kin, Kins]) fun hw => ?_
      refine sndQ_body (K := (KT S0)) kt_ok mixed noNum (m := 0) Tryz.func101 ?_
      generalize hQ : retQ _ _ _ _ _ _ = Q0
      refine body_go (c := Tryz.f101.body.getD .skip) (n := 55) rfl rfl (by simp only [↓reduceIte, T.setList, T.set_e] <;> rfl) ?_
      simp only [Tryz.f101, Option.getD_some]
      repeat' (first | with_reducible (first | refine r_seq ?_ | refine r_next ?_ | refine r_block ?_ | refine r_seq_exit ?_ | refine r_seq_ret ?_ | refine r_blk_n ?_ | refine r_blk_ret ?_ | refine r_blk_hit ?_ | refine r_blk_miss rfl ?_ | refine r_skip ?_ | refine r_exit ?_ | refine r_ret ?_ | refine r_rq_exit ?_ | refine r_rq_ret ?_) | ((with_reducible apply r_regA); (focus (exact sd2)); (focus (exact sd1))) | ((with_reducible refine r_reg (List.toList_toArray) ?_ ?_); focus (exact sd1)) | ((with_reducible apply r_end); focus (exact sd4)) | ((with_reducible (first | apply r_move | apply r_assign)); (focus (exact sd3)); (focus (exact sd7))) | ((with_reducible apply r_condT); (focus (exact sd3))) | ((with_reducible (first | apply r_any | apply r_cond)); focus (simp only [↓reduceIte, Bool.not_true, clsOf, clsCall, newBlk, allocOp, Fr.ev, evs, ofV, ofA, ofS, nVar, AV.cells, rowOf_mk, put_mk, upd_mk, keyOf_mk, pureOp, readOp, pFA, pFA1, pFA2, rLd, rdAB_row, oneCell_one, someAgg_s, hget_same, pBin, binA, intOp_eql, List.length_cons, List.length_nil, List.getElem?_cons_zero, List.getElem?_cons_succ, List.drop_zero, List.drop_succ_cons, List.take_succ_cons, List.take_zero, Nat.zero_add, Nat.add_zero, Nat.reduceAdd, Nat.reduceLT, Nat.reduceLeDiff, Nat.reduceEqDiff, Nat.reduceSub, Nat.add_eq, loadA_w, loadW_a, loadW_s, pUn_not, callTo_s, heavyCall, target, List.nil_append, List.append_nil, binA, beq_self_eq_true, stepOp, stHeavy, stV_mk, stB_mk, stO_mk, T.get_n, T.set_n, T.set_e, Nat.reduceDiv, Nat.reduceMod, sz2, ag2, sz3, ag3, sz217, ag217, Tryz.underlying217, stepAny, wantedA_none, k_valid ht, dec_t hv, k_pdigits hn] <;> rfl)) | (with_reducible rw [ifQ_t]) | (with_reducible rw [ifQ_f]) | (with_reducible refine ifQ_intro ?_ ?_ <;> intro hb))
      subst hQ
      refine ret_back (by simp only [Tryz.results101, resultOf, resultsA, resultA, List.toList_toArray, Fr.ev, T.get_n, Nat.reduceDiv, Nat.reduceMod, Nat.reduceSub, Nat.reduceEqDiff, ↓reduceIte] <;> rfl) ?_
      exact ⟨_, by rw [printV_int hv rfl, codeV_t hv], by repeat (first | exact Same.base _ _ _ | refine Same.hset hw ?_ (ky_le _ _))⟩
    by_cases k0 : k = 0
    · subst k0
      refine snd_val (by simp [Kin, Kins]) fun hw => ?_
      refine sndQ_body (K := (KT S0)) kt_ok mixed noNum (m := 0) Tryz.func101 ?_
      generalize hQ : retQ _ _ _ _ _ _ = Q0
      refine body_go (c := Tryz.f101.body.getD .skip) (n := 55) rfl rfl (by simp only [↓reduceIte, T.setList, T.set_e] <;> rfl) ?_
      simp only [Tryz.f101, Option.getD_some]
      repeat' (first | with_reducible (first | refine r_seq ?_ | refine r_next ?_ | refine r_block ?_ | refine r_seq_exit ?_ | refine r_seq_ret ?_ | refine r_blk_n ?_ | refine r_blk_ret ?_ | refine r_blk_hit ?_ | refine r_blk_miss rfl ?_ | refine r_skip ?_ | refine r_exit ?_ | refine r_ret ?_ | refine r_rq_exit ?_ | refine r_rq_ret ?_) | ((with_reducible apply r_regA); (focus (exact sd2)); (focus (exact sd1))) | ((with_reducible refine r_reg (List.toList_toArray) ?_ ?_); focus (exact sd1)) | ((with_reducible apply r_end); focus (exact sd4)) | ((with_reducible (first | apply r_move | apply r_assign)); (focus (exact sd3)); (focus (exact sd7))) | ((with_reducible apply r_condT); (focus (exact sd3))) | ((with_reducible (first | apply r_any | apply r_cond)); focus (simp only [↓reduceIte, Bool.not_true, clsOf, clsCall, newBlk, allocOp, Fr.ev, evs, ofV, ofA, ofS, nVar, AV.cells, rowOf_mk, put_mk, upd_mk, keyOf_mk, pureOp, readOp, pFA, pFA1, pFA2, rLd, rdAB_row, oneCell_one, someAgg_s, hget_same, pBin, binA, intOp_eql, List.length_cons, List.length_nil, List.getElem?_cons_zero, List.drop_zero, List.take_succ_cons, List.take_zero, Nat.zero_add, Nat.add_zero, Nat.reduceAdd, Nat.reduceLT, Nat.reduceLeDiff, Nat.reduceEqDiff, Nat.reduceSub, Nat.add_eq, loadA_w, loadW_a, loadW_s, pUn_not, callTo_s, heavyCall, target, List.nil_append, List.append_nil, binA, beq_self_eq_true, Int.reduceBEq, stepOp, stHeavy, stV_mk, stB_mk, stO_mk, T.get_n, T.set_n, T.set_e, Nat.reduceDiv, Nat.reduceMod, sz3, ag3, sz217, ag217, Tryz.underlying217, stepAny, wantedA_none, k_valid ht, dec_t hv] <;> rfl)) | (with_reducible rw [ifQ_t]) | (with_reducible rw [ifQ_f]) | (with_reducible refine ifQ_intro ?_ ?_ <;> intro hb))
      subst hQ
      refine ret_back (by simp only [Tryz.results101, resultOf, resultsA, resultA, List.toList_toArray, Fr.ev, T.get_n, Nat.reduceDiv, Nat.reduceMod, Nat.reduceSub, Nat.reduceEqDiff, ↓reduceIte] <;> rfl) ?_
      exact ⟨_, by rw [printV_none hv rfl, codeV_t hv]; rfl, by repeat (first | exact Same.base _ _ _ | refine Same.hset hw ?_ (ky_le _ _))⟩
    · obtain rfl := vk_cases hv k0 k1
      rw [printV_text hv k0 k1, codeV_t hv]
      exact print_text h F n t hv
  · refine snd_val (by simp [Kin, Kins]) fun hw => ?_
    refine sndQ_body (K := (KT S0)) kt_ok mixed noNum (m := 0) Tryz.func101 ?_
    generalize hQ : retQ _ _ _ _ _ _ = Q0
    refine body_go (c := Tryz.f101.body.getD .skip) (n := 55) rfl rfl (by simp only [↓reduceIte, T.setList, T.set_e] <;> rfl) ?_
    simp only [Tryz.f101, Option.getD_some]
    repeat' (first | with_reducible (first | refine r_seq ?_ | refine r_next ?_ | refine r_block ?_ | refine r_seq_exit ?_ | refine r_seq_ret ?_ | refine r_blk_n ?_ | refine r_blk_ret ?_ | refine r_blk_hit ?_ | refine r_blk_miss rfl ?_ | refine r_skip ?_ | refine r_exit ?_ | refine r_ret ?_ | refine r_rq_exit ?_ | refine r_rq_ret ?_) | ((with_reducible apply r_regA); (focus (exact sd2)); (focus (exact sd1))) | ((with_reducible refine r_reg (List.toList_toArray) ?_ ?_); focus (exact sd1)) | ((with_reducible apply r_end); focus (exact sd4)) | ((with_reducible (first | apply r_move | apply r_assign)); (focus (exact sd3)); (focus (exact sd7))) | ((with_reducible apply r_condT); (focus (exact sd3))) | ((with_reducible (first | apply r_any | apply r_cond)); focus (simp only [↓reduceIte, Bool.not_false, clsOf, clsCall, newBlk, allocOp, Fr.ev, evs, ofV, ofA, ofS, nVar, AV.cells, rowOf_mk, put_mk, upd_mk, keyOf_mk, pureOp, readOp, rLd, rdAB_row, someAgg_s, hget_same, List.length_cons, List.length_nil, List.drop_zero, List.take_succ_cons, List.take_zero, Nat.zero_add, Nat.add_zero, Nat.reduceAdd, Nat.reduceLT, Nat.reduceLeDiff, Nat.reduceEqDiff, Nat.reduceSub, loadA_w, loadW_a, pUn_not, callTo_s, heavyCall, target, List.nil_append, List.append_nil, stepOp, stHeavy, stV_mk, stB_mk, stO_mk, T.get_n, T.set_n, T.set_e, Nat.reduceDiv, Nat.reduceMod, sz217, ag217, stepAny, wantedA_none, k_valid ht, dec_f hv] <;> rfl)) | (with_reducible rw [ifQ_t]) | (with_reducible rw [ifQ_f]) | (with_reducible refine ifQ_intro ?_ ?_ <;> intro hb))
    subst hQ
    refine ret_back (by simp only [Tryz.results101, resultOf, resultsA, resultA, List.toList_toArray, Fr.ev, T.get_n, Nat.reduceDiv, Nat.reduceMod, Nat.reduceSub, Nat.reduceEqDiff, ↓reduceIte] <;> rfl) ?_
    exact ⟨_, by rw [printV_bad hv, codeV_f hv], by repeat (first | exact Same.base _ _ _ | refine Same.hset hw ?_ (ky_le _ _))⟩
theorem k_pprint {h : Heap} {F : Nat} {k n : Int} {t : List UInt8} (hn : in64 n) (ht : t.length ≤ maxLen) : CallF.fn (KT S) 101 [.agg [.int .i64 k, .int .i64 n, .str t]] ⟨h, F⟩ = some [.val (.tup [.str (printV k n t), .int .i64 (codeV k n t)]) ⟨h, F⟩] := kt_fn rfl (pprint h F k n t hn ht)
theorem slice_str {u : TypeId} {t : List UInt8} {i : Nat} {c : UInt8} (hu : Tryz.prog.underlying u = some .string) (hc : t[i]? = some c) (hm : t.length ≤ 1000000) : sliceA Tryz.prog u (.str t) (some (.int .i64 (i : Int))) (some (.int .i64 ((i : Int) + 1))) none = some (.str [c]) := by
  have hi := (List.getElem?_eq_some_iff.1 hc).1
  have e1 : natOf (.int .i64 (i : Int)) = some i := rfl
  have e2 : natOf (.int .i64 ((i : Int) + 1)) = some (i + 1) := rfl
  have b1 : Nat.ble i (i + 1) = true := Nat.ble_eq_true_of_le (by omega)
  have b2 : Nat.ble (i + 1) t.length = true := Nat.ble_eq_true_of_le (by omega)
  have b3 : Nat.ble t.length t.length = true := Nat.ble_eq_true_of_le (Nat.le_refl _)
  have hd : (t.drop i).take (Nat.sub (i + 1) i) = [c] := by
    rw [show Nat.sub (i + 1) i = 1 from by show i + 1 - i = 1; omega, List.drop_eq_getElem_cons hi]
    have : t[i] = c := by rw [List.getElem?_eq_getElem hi] at hc; exact Option.some.inj hc
    rw [this]; rfl
  simp only [sliceA, hu, sliceD, boundsA, boundA, e1, e2, b1, b2, Bool.and_self, sliceStr, hd]
set_option maxHeartbeats 4000000 in
theorem vprint_text (h : Heap) (F : Nat) (n : Int) (t : List UInt8) (hv : vOk 2 n t) : Snd Tryz.prog GL 115 [.agg [.int .i64 2, .int .i64 n, .str t]] ⟨h, F⟩ [.val (.tup [.str (34 :: (escL t ++ [34])), .int .i64 0]) ⟨h, F⟩] := by
  refine snd_val (by simp [Kin, Kins]) fun hw => ?_
  have mxl : maxLen = 9223372036854775807 := by decide
  have ht64 : t.length ≤ 64 := by rcases hv with h | h | h <;> simp_all
  have ht : t.length ≤ maxLen := by omega
  refine sndQ_body (K := (KT S0)) kt_ok mixed noNum (m := 101) Tryz.func115 ?_
  generalize hQ : retQ _ _ _ _ _ _ = Q0
  refine body_go (c := Tryz.f115.body.getD .skip) (n := 49) rfl rfl (by simp only [↓reduceIte, T.setList, T.set_e] <;> rfl) ?_
  simp only [Tryz.f115, Option.getD_some]
  repeat' (first | with_reducible (first | refine r_seq ?_ | refine r_next ?_ | refine r_block ?_ | refine r_seq_exit ?_ | refine r_seq_ret ?_ | refine r_blk_n ?_ | refine r_blk_ret ?_ | refine r_blk_hit ?_ | refine r_blk_miss rfl ?_ | refine r_skip ?_ | refine r_exit ?_ | refine r_ret ?_ | refine r_rq_exit ?_ | refine r_rq_ret ?_) | ((with_reducible apply r_regA); (focus (exact sd2)); (focus (exact sd1))) | ((with_reducible refine r_reg (List.toList_toArray) ?_ ?_); focus (exact sd1)) | ((with_reducible apply r_end); focus (exact sd4)) | ((with_reducible (first | apply r_move | apply r_assign)); (focus (exact sd3)); (focus (exact sd7))) | ((with_reducible apply r_condT); (focus (exact sd3))) | ((with_reducible (first | apply r_any | apply r_cond)); focus (simp only [↓reduceIte, Bool.not_true, clsOf, clsCall, newBlk, allocOp, Fr.ev, evs, ofV, ofA, ofS, nVar, AV.cells, rowOf_mk, put_mk, upd_mk, keyOf_mk, pureOp, readOp, pFA, pFA1, pFA2, rLd, rdAB_row, oneCell_one, someAgg_s, hget_same, pBin, binA, intOp_eql, List.length_cons, List.length_nil, List.getElem?_cons_zero, List.drop_zero, List.take_succ_cons, List.take_zero, Nat.zero_add, Nat.add_zero, Nat.reduceAdd, Nat.reduceLT, Nat.reduceLeDiff, Nat.reduceEqDiff, Nat.reduceSub, Nat.add_eq, loadA_w, loadW_a, loadW_s, pUn_not, callTo_s, heavyCall, target, List.nil_append, List.append_nil, binA, Int.reduceBEq, stepOp, stHeavy, stV_mk, stB_mk, stO_mk, T.get_n, T.set_n, T.set_e, Nat.reduceDiv, Nat.reduceMod, sz3, ag3, sz217, ag217, Tryz.underlying217, stepAny, wantedA_none, k_vvalid ht, dec_t hv] <;> rfl)) | (with_reducible rw [ifQ_t]) | (with_reducible rw [ifQ_f]) | (with_reducible refine ifQ_intro ?_ ?_ <;> intro hb))
  refine r_loop (I := fun nn fr s1 => ∃ lc tt i, fr = ⟨F, lc, 49, tt, [], .no⟩ ∧ s1 = ⟨hset h (ky F 0) (mkRow [.int .i64 2, .int .i64 n, .str t] 0), F + 1⟩ ∧ i ≤ t.length ∧ nn = t.length - i ∧ lc + nn * 1000 ≤ 100000000000000000000000000 ∧ tt.get 1 = some (.ptr (ky F 0) 0) ∧ tt.get 4 = some (.str (34 :: escL (t.take i))) ∧ tt.get 5 = some (.int .i64 (i : Int))) (n := t.length) ?_ ?_ ?_
  · omega
  · exact ⟨_, _, 0, rfl, rfl, Nat.zero_le _, (Nat.sub_zero _).symm, by omega, (by first | (simp only [T.get_n, Nat.reduceEqDiff, Nat.reduceDiv, Nat.reduceMod, ↓reduceIte] <;> rfl) | rfl), (by first | (simp only [T.get_n, Nat.reduceEqDiff, Nat.reduceDiv, Nat.reduceMod, Nat.reduceSub, ↓reduceIte] <;> rfl) | rfl), (by first | (simp only [T.get_n, Nat.reduceEqDiff, Nat.reduceDiv, Nat.reduceMod, Nat.reduceSub, ↓reduceIte] <;> rfl) | rfl)⟩
  rintro nn fr s1 ⟨lc, tt, i, rfl, rfl, hi, rfl, hlc, u1, u4, u5⟩
  have hel := escL_len (t.take i)
  rw [List.length_take] at hel
  by_cases hil : i < t.length
  · obtain ⟨c, hc⟩ : ∃ c, t[i]? = some c := ⟨t[i], by simp⟩
    have ix := pIx_s (h := 9) Tryz.underlying9 hc
    have hst := escL_take hc
    have sl := slice_str (u := 9) Tryz.underlying9 hc (by omega)
    have s1 := strOp_add (a := 34 :: escL (t.take i)) (b := [92]) (by simp only [List.length_cons, List.length_nil]; omega)
    have s2 := strOp_add (a := (34 :: escL (t.take i)) ++ [92]) (b := [c]) (by simp only [List.length_cons, List.length_append, List.length_nil]; omega)
    have s3 := strOp_add (a := 34 :: escL (t.take i)) (b := [c]) (by simp only [List.length_cons, List.length_nil]; omega)
    by_cases hq : c.toNat = 34 ∨ c.toNat = 92
    · have e1 : (((c.toNat : Nat) : Int) == 34) = true ∨ ((((c.toNat : Nat) : Int) == 34) = false ∧ (((c.toNat : Nat) : Int) == 92) = true) := by
        rcases hq with h | h
        · exact .inl (beq_iff_eq.2 (by omega))
        · exact .inr ⟨beq_eq_false_iff_ne.2 (by omega), beq_iff_eq.2 (by omega)⟩
      have hnew : (34 :: escL (t.take i)) ++ [92] ++ [c] = 34 :: escL (t.take (i + 1)) := by rw [hst, esc_t hq]; simp
      rw [hnew] at s2
      rcases e1 with e1 | ⟨e1, e2⟩
      · repeat' (first | with_reducible (first | refine r_seq ?_ | refine r_next ?_ | refine r_block ?_ | refine r_seq_exit ?_ | refine r_seq_ret ?_ | refine r_blk_n ?_ | refine r_blk_ret ?_ | refine r_blk_hit ?_ | refine r_blk_miss rfl ?_ | refine r_skip ?_ | refine r_exit ?_ | refine r_ret ?_ | refine r_rq_exit ?_ | refine r_rq_ret ?_) | ((with_reducible apply r_regA); (focus (exact sd2)); (focus (exact sd1))) | ((with_reducible refine r_reg (List.toList_toArray) ?_ ?_); focus (exact sd1)) | ((with_reducible apply r_end); focus (exact sd4)) | ((with_reducible (first | apply r_move | apply r_assign)); (focus (simp only [Tget_set, Nat.reduceEqDiff, ↓reduceIte, u4, u5] <;> rfl)); (focus (exact sd7))) | ((with_reducible apply r_condT); (focus (exact sd3))) | ((with_reducible (first | apply r_any | apply r_cond)); focus (simp only [↓reduceIte, wantedA_eq, gBool_f, Bool.not_true, clsOf, clsCall, Fr.ev, ofV, ofA, ofS, put_mk, pureOp, readOp, pFA, pFA1, pFA2, rLd, rdAB_row, oneCell_one, hget_same, pBin, binA, intOp_eql, intOp_lss, pPick, List.length_cons, List.length_nil, List.getElem?_cons_zero, List.getElem?_cons_succ, List.drop_zero, List.drop_succ_cons, List.take_succ_cons, List.take_zero, Nat.zero_add, Nat.reduceAdd, Nat.reduceLT, Nat.reduceLeDiff, Nat.reduceEqDiff, Nat.add_eq, loadA_w, loadW_s, binA, stepOp, stV_mk, sz9, ag9, Tryz.underlying9, Tryz.underlying217, stepAny, wantedA_none, rCall, rLen, rLen1_str, lenA, Tget_set, u1, lt_t hil, ix, e1, rSl, pSlice, evO, sl, s1, s2, intOp_add (inR_succ hil ht)] <;> rfl)) | (with_reducible rw [ifQ_t]) | (with_reducible rw [ifQ_f]) | (with_reducible refine ifQ_intro ?_ ?_ <;> intro hb))
        exact r_rq_n (k := t.length - (i + 1)) (by omega) ⟨_, _, i + 1, rfl, rfl, by omega, rfl, by omega, (by first | (simp only [Tget_set, Nat.reduceEqDiff, ↓reduceIte, u1] <;> rfl) | rfl), (by first | (simp only [Tget_set, Nat.reduceEqDiff, ↓reduceIte] <;> rfl) | rfl), (by first | (simp only [Tget_set, ↓reduceIte] <;> rfl) | rfl)⟩
      · repeat' (first | with_reducible (first | refine r_seq ?_ | refine r_next ?_ | refine r_block ?_ | refine r_seq_exit ?_ | refine r_seq_ret ?_ | refine r_blk_n ?_ | refine r_blk_ret ?_ | refine r_blk_hit ?_ | refine r_blk_miss rfl ?_ | refine r_skip ?_ | refine r_exit ?_ | refine r_ret ?_ | refine r_rq_exit ?_ | refine r_rq_ret ?_) | ((with_reducible apply r_regA); (focus (exact sd2)); (focus (exact sd1))) | ((with_reducible refine r_reg (List.toList_toArray) ?_ ?_); focus (exact sd1)) | ((with_reducible apply r_end); focus (exact sd4)) | ((with_reducible (first | apply r_move | apply r_assign)); (focus (simp only [Tget_set, Nat.reduceEqDiff, ↓reduceIte, u4, u5] <;> rfl)); (focus (exact sd7))) | ((with_reducible apply r_condT); (focus (exact sd3))) | ((with_reducible (first | apply r_any | apply r_cond)); focus (simp only [↓reduceIte, wantedA_eq, gBool_f, Bool.not_false, clsOf, clsCall, Fr.ev, ofV, ofA, ofS, put_mk, pureOp, readOp, pFA, pFA1, pFA2, rLd, rdAB_row, oneCell_one, hget_same, pBin, binA, intOp_eql, intOp_lss, pPick, List.length_cons, List.length_nil, List.getElem?_cons_zero, List.getElem?_cons_succ, List.drop_zero, List.drop_succ_cons, List.take_succ_cons, List.take_zero, Nat.zero_add, Nat.reduceAdd, Nat.reduceLT, Nat.reduceLeDiff, Nat.reduceEqDiff, Nat.add_eq, loadA_w, loadW_s, binA, stepOp, stV_mk, sz9, ag9, Tryz.underlying9, Tryz.underlying217, stepAny, wantedA_none, rCall, rLen, rLen1_str, lenA, Tget_set, u1, u5, lt_t hil, ix, e1, e2, rSl, pSlice, evO, sl, s1, s2, intOp_add (inR_succ hil ht)] <;> rfl)) | (with_reducible rw [ifQ_t]) | (with_reducible rw [ifQ_f]) | (with_reducible refine ifQ_intro ?_ ?_ <;> intro hb))
        exact r_rq_n (k := t.length - (i + 1)) (by omega) ⟨_, _, i + 1, rfl, rfl, by omega, rfl, by omega, (by first | (simp only [Tget_set, Nat.reduceEqDiff, ↓reduceIte, u1] <;> rfl) | rfl), (by first | (simp only [Tget_set, Nat.reduceEqDiff, ↓reduceIte] <;> rfl) | rfl), (by first | (simp only [Tget_set, ↓reduceIte] <;> rfl) | rfl)⟩
    · have e1 : (((c.toNat : Nat) : Int) == 34) = false := beq_eq_false_iff_ne.2 (by omega)
      have e2 : (((c.toNat : Nat) : Int) == 92) = false := beq_eq_false_iff_ne.2 (by omega)
      have hnew : (34 :: escL (t.take i)) ++ [c] = 34 :: escL (t.take (i + 1)) := by rw [hst, esc_f hq]; rfl
      rw [hnew] at s3
      repeat' (first | with_reducible (first | refine r_seq ?_ | refine r_next ?_ | refine r_block ?_ | refine r_seq_exit ?_ | refine r_seq_ret ?_ | refine r_blk_n ?_ | refine r_blk_ret ?_ | refine r_blk_hit ?_ | refine r_blk_miss rfl ?_ | refine r_skip ?_ | refine r_exit ?_ | refine r_ret ?_ | refine r_rq_exit ?_ | refine r_rq_ret ?_) | ((with_reducible apply r_regA); (focus (exact sd2)); (focus (exact sd1))) | ((with_reducible refine r_reg (List.toList_toArray) ?_ ?_); focus (exact sd1)) | ((with_reducible apply r_end); focus (exact sd4)) | ((with_reducible (first | apply r_move | apply r_assign)); (focus (simp only [Tget_set, Nat.reduceEqDiff, ↓reduceIte, u4, u5] <;> rfl)); (focus (exact sd7))) | ((with_reducible apply r_condT); (focus (exact sd3))) | ((with_reducible (first | apply r_any | apply r_cond)); focus (simp only [↓reduceIte, wantedA_eq, gBool_f, Bool.not_false, clsOf, clsCall, Fr.ev, ofV, ofA, ofS, put_mk, pureOp, readOp, pFA, pFA1, pFA2, rLd, rdAB_row, oneCell_one, hget_same, pBin, binA, intOp_eql, intOp_lss, pPick, List.length_cons, List.length_nil, List.getElem?_cons_zero, List.getElem?_cons_succ, List.drop_zero, List.drop_succ_cons, List.take_succ_cons, List.take_zero, Nat.zero_add, Nat.reduceAdd, Nat.reduceLT, Nat.reduceLeDiff, Nat.reduceEqDiff, Nat.add_eq, loadA_w, loadW_s, binA, stepOp, stV_mk, sz9, ag9, Tryz.underlying9, Tryz.underlying217, stepAny, wantedA_none, rCall, rLen, rLen1_str, lenA, Tget_set, u1, u5, lt_t hil, ix, e1, e2, rSl, pSlice, evO, sl, s3, intOp_add (inR_succ hil ht)] <;> rfl)) | (with_reducible rw [ifQ_t]) | (with_reducible rw [ifQ_f]) | (with_reducible refine ifQ_intro ?_ ?_ <;> intro hb))
      exact r_rq_n (k := t.length - (i + 1)) (by omega) ⟨_, _, i + 1, rfl, rfl, by omega, rfl, by omega, (by first | (simp only [Tget_set, Nat.reduceEqDiff, ↓reduceIte, u1] <;> rfl) | rfl), (by first | (simp only [Tget_set, Nat.reduceEqDiff, ↓reduceIte] <;> rfl) | rfl), (by first | (simp only [Tget_set, ↓reduceIte] <;> rfl) | rfl)⟩
  · have hend : i = t.length := by omega
    have htk : t.take i = t := by rw [hend]; exact List.take_length
    rw [htk] at u4 hel
    have s1 := strOp_add (a := 34 :: escL t) (b := [34]) (by simp only [List.length_cons, List.length_nil]; omega)
    repeat' (first | with_reducible (first | refine r_seq ?_ | refine r_next ?_ | refine r_block ?_ | refine r_seq_exit ?_ | refine r_seq_ret ?_ | refine r_blk_n ?_ | refine r_blk_ret ?_ | refine r_blk_hit ?_ | refine r_blk_miss rfl ?_ | refine r_skip ?_ | refine r_exit ?_ | refine r_ret ?_ | refine r_rq_exit ?_ | refine r_rq_ret ?_) | ((with_reducible apply r_regA); (focus (exact sd2)); (focus (exact sd1))) | ((with_reducible refine r_reg (List.toList_toArray) ?_ ?_); focus (exact sd1)) | ((with_reducible apply r_end); focus (exact sd4)) | ((with_reducible (first | apply r_move | apply r_assign)); (focus (simp only [Tget_set, Nat.reduceEqDiff, ↓reduceIte, u4, u5] <;> rfl)); (focus (exact sd7))) | ((with_reducible apply r_condT); (focus (exact sd3))) | ((with_reducible (first | apply r_any | apply r_cond)); focus (simp only [↓reduceIte, clsOf, clsCall, Fr.ev, ofV, ofA, ofS, put_mk, pureOp, readOp, pFA, pFA1, pFA2, rLd, rdAB_row, oneCell_one, hget_same, pBin, binA, intOp_lss, List.length_cons, List.length_nil, List.getElem?_cons_zero, List.getElem?_cons_succ, List.drop_zero, List.drop_succ_cons, List.take_succ_cons, List.take_zero, Nat.zero_add, Nat.reduceAdd, Nat.reduceLT, Nat.reduceLeDiff, Nat.reduceEqDiff, Nat.add_eq, loadA_w, loadW_s, binA, stepOp, stV_mk, sz9, ag9, Tryz.underlying9, Tryz.underlying217, stepAny, wantedA_none, rCall, rLen, rLen1_str, lenA, Tget_set, u1, lt_f hil, s1] <;> rfl)) | (with_reducible rw [ifQ_t]) | (with_reducible rw [ifQ_f]) | (with_reducible refine ifQ_intro ?_ ?_ <;> intro hb))
    subst hQ
    refine ret_back (by simp only [Tryz.results115, resultOf, resultsA, resultA, List.toList_toArray, Fr.ev, Tget_set, Nat.reduceEqDiff, ↓reduceIte] <;> rfl) ?_
    exact ⟨_, rfl, by repeat (first | exact Same.base _ _ _ | refine Same.hset hw ?_ (ky_le _ _))⟩
set_option maxHeartbeats 4000000 in
theorem vprint (h : Heap) (F : Nat) (k n : Int) (t : List UInt8) (hn : in64 n) (ht : t.length ≤ maxLen) : Snd Tryz.prog GL 115 [.agg [.int .i64 k, .int .i64 n, .str t]] ⟨h, F⟩ [.val (.tup [.str (printV k n t), .int .i64 (codeV k n t)]) ⟨h, F⟩] := by
  by_cases hv : vOk k n t
  · by_cases k1 : k = 1
    · subst k1
      refine snd_val (by simp [Kin, Kins]) fun hw => ?_
      refine sndQ_body (K := (KT S0)) kt_ok mixed noNum (m := 0) Tryz.func115 ?_
      generalize hQ : retQ _ _ _ _ _ _ = Q0
      refine body_go (c := Tryz.f115.body.getD .skip) (n := 49) rfl rfl (by simp only [↓reduceIte, T.setList, T.set_e] <;> rfl) ?_
      simp only [Tryz.f115, Option.getD_some]
      repeat' (first | with_reducible (first | refine r_seq ?_ | refine r_next ?_ | refine r_block ?_ | refine r_seq_exit ?_ | refine r_seq_ret ?_ | refine r_blk_n ?_ | refine r_blk_ret ?_ | refine r_blk_hit ?_ | refine r_blk_miss rfl ?_ | refine r_skip ?_ | refine r_exit ?_ | refine r_ret ?_ | refine r_rq_exit ?_ | refine r_rq_ret ?_) | ((with_reducible apply r_regA); (focus (exact sd2)); (focus (exact sd1))) | ((with_reducible refine r_reg (List.toList_toArray) ?_ ?_); focus (exact sd1)) | ((with_reducible apply r_end); focus (exact sd4)) | ((with_reducible (first | apply r_move | apply r_assign)); (focus (exact sd3)); (focus (exact sd7))) | ((with_reducible apply r_condT); (focus (exact sd3))) | ((with_reducible (first | apply r_any | apply r_cond)); focus (simp only [↓reduceIte, Bool.not_true, clsOf, clsCall, newBlk, allocOp, Fr.ev, evs, ofV, ofA, ofS, nVar, AV.cells, rowOf_mk, put_mk, upd_mk, keyOf_mk, pureOp, readOp, pFA, pFA1, pFA2, rLd, rdAB_row, oneCell_one, someAgg_s, hget_same, pBin, binA, intOp_eql, List.length_cons, List.length_nil, List.getElem?_cons_zero, List.getElem?_cons_succ, List.drop_zero, List.drop_succ_cons, List.take_succ_cons, List.take_zero, Nat.zero_add, Nat.add_zero, Nat.reduceAdd, Nat.reduceLT, Nat.reduceLeDiff, Nat.reduceEqDiff, Nat.reduceSub, Nat.add_eq, loadA_w, loadW_a, loadW_s, pUn_not, callTo_s, heavyCall, target, List.nil_append, List.append_nil, binA, beq_self_eq_true, Int.reduceBEq, stepOp, stHeavy, stV_mk, stB_mk, stO_mk, T.get_n, T.set_n, T.set_e, Nat.reduceDiv, Nat.reduceMod, sz2, ag2, sz3, ag3, sz217, ag217, Tryz.underlying217, stepAny, wantedA_none, k_vvalid ht, dec_t hv, k_vdigits hn] <;> rfl)) | (with_reducible rw [ifQ_t]) | (with_reducible rw [ifQ_f]) | (with_reducible refine ifQ_intro ?_ ?_ <;> intro hb))
      subst hQ
      refine ret_back (by simp only [Tryz.results115, resultOf, resultsA, resultA, List.toList_toArray, Fr.ev, T.get_n, Nat.reduceDiv, Nat.reduceMod, Nat.reduceSub, Nat.reduceEqDiff, ↓reduceIte] <;> rfl) ?_
      exact ⟨_, by rw [printV_int hv rfl, codeV_t hv], by repeat (first | exact Same.base _ _ _ | refine Same.hset hw ?_ (ky_le _ _))⟩
    by_cases k0 : k = 0
    · subst k0
      refine snd_val (by simp [Kin, Kins]) fun hw => ?_
      refine sndQ_body (K := (KT S0)) kt_ok mixed noNum (m := 0) Tryz.func115 ?_
      generalize hQ : retQ _ _ _ _ _ _ = Q0
      refine body_go (c := Tryz.f115.body.getD .skip) (n := 49) rfl rfl (by simp only [↓reduceIte, T.setList, T.set_e] <;> rfl) ?_
      simp only [Tryz.f115, Option.getD_some]
      repeat' (first | with_reducible (first | refine r_seq ?_ | refine r_next ?_ | refine r_block ?_ | refine r_seq_exit ?_ | refine r_seq_ret ?_ | refine r_blk_n ?_ | refine r_blk_ret ?_ | refine r_blk_hit ?_ | refine r_blk_miss rfl ?_ | refine r_skip ?_ | refine r_exit ?_ | refine r_ret ?_ | refine r_rq_exit ?_ | refine r_rq_ret ?_) | ((with_reducible apply r_regA); (focus (exact sd2)); (focus (exact sd1))) | ((with_reducible refine r_reg (List.toList_toArray) ?_ ?_); focus (exact sd1)) | ((with_reducible apply r_end); focus (exact sd4)) | ((with_reducible (first | apply r_move | apply r_assign)); (focus (exact sd3)); (focus (exact sd7))) | ((with_reducible apply r_condT); (focus (exact sd3))) | ((with_reducible (first | apply r_any | apply r_cond)); focus (simp only [↓reduceIte, Bool.not_true, clsOf, clsCall, newBlk, allocOp, Fr.ev, evs, ofV, ofA, ofS, nVar, AV.cells, rowOf_mk, put_mk, upd_mk, keyOf_mk, pureOp, readOp, pFA, pFA1, pFA2, rLd, rdAB_row, oneCell_one, someAgg_s, hget_same, pBin, binA, intOp_eql, List.length_cons, List.length_nil, List.getElem?_cons_zero, List.drop_zero, List.take_succ_cons, List.take_zero, Nat.zero_add, Nat.add_zero, Nat.reduceAdd, Nat.reduceLT, Nat.reduceLeDiff, Nat.reduceEqDiff, Nat.reduceSub, Nat.add_eq, loadA_w, loadW_a, loadW_s, pUn_not, callTo_s, heavyCall, target, List.nil_append, List.append_nil, binA, beq_self_eq_true, stepOp, stHeavy, stV_mk, stB_mk, stO_mk, T.get_n, T.set_n, T.set_e, Nat.reduceDiv, Nat.reduceMod, sz3, ag3, sz217, ag217, Tryz.underlying217, stepAny, wantedA_none, k_vvalid ht, dec_t hv] <;> rfl)) | (with_reducible rw [ifQ_t]) | (with_reducible rw [ifQ_f]) | (with_reducible refine ifQ_intro ?_ ?_ <;> intro hb))
      subst hQ
      refine ret_back (by simp only [Tryz.results115, resultOf, resultsA, resultA, List.toList_toArray, Fr.ev, T.get_n, Nat.reduceDiv, Nat.reduceMod, Nat.reduceSub, Nat.reduceEqDiff, ↓reduceIte] <;> rfl) ?_
      exact ⟨_, by rw [printV_none hv rfl, codeV_t hv]; rfl, by repeat (first | exact Same.base _ _ _ | refine Same.hset hw ?_ (ky_le _ _))⟩
    · obtain rfl := vk_cases hv k0 k1
      rw [printV_text hv k0 k1, codeV_t hv]
      exact vprint_text h F n t hv
  · refine snd_val (by simp [Kin, Kins]) fun hw => ?_
    refine sndQ_body (K := (KT S0)) kt_ok mixed noNum (m := 0) Tryz.func115 ?_
    generalize hQ : retQ _ _ _ _ _ _ = Q0
    refine body_go (c := Tryz.f115.body.getD .skip) (n := 49) rfl rfl (by simp only [↓reduceIte, T.setList, T.set_e] <;> rfl) ?_
    simp only [Tryz.f115, Option.getD_some]
    repeat' (first | with_reducible (first | refine r_seq ?_ | refine r_next ?_ | refine r_block ?_ | refine r_seq_exit ?_ | refine r_seq_ret ?_ | refine r_blk_n ?_ | refine r_blk_ret ?_ | refine r_blk_hit ?_ | refine r_blk_miss rfl ?_ | refine r_skip ?_ | refine r_exit ?_ | refine r_ret ?_ | refine r_rq_exit ?_ | refine r_rq_ret ?_) | ((with_reducible apply r_regA); (focus (exact sd2)); (focus (exact sd1))) | ((with_reducible refine r_reg (List.toList_toArray) ?_ ?_); focus (exact sd1)) | ((with_reducible apply r_end); focus (exact sd4)) | ((with_reducible (first | apply r_move | apply r_assign)); (focus (exact sd3)); (focus (exact sd7))) | ((with_reducible apply r_condT); (focus (exact sd3))) | ((with_reducible (first | apply r_any | apply r_cond)); focus (simp only [↓reduceIte, Bool.not_false, clsOf, clsCall, newBlk, allocOp, Fr.ev, evs, ofV, ofA, ofS, nVar, AV.cells, rowOf_mk, put_mk, upd_mk, keyOf_mk, pureOp, readOp, rLd, rdAB_row, someAgg_s, hget_same, List.length_cons, List.length_nil, List.drop_zero, List.take_succ_cons, List.take_zero, Nat.zero_add, Nat.add_zero, Nat.reduceAdd, Nat.reduceLT, Nat.reduceLeDiff, Nat.reduceEqDiff, Nat.reduceSub, loadA_w, loadW_a, pUn_not, callTo_s, heavyCall, target, List.nil_append, List.append_nil, stepOp, stHeavy, stV_mk, stB_mk, stO_mk, T.get_n, T.set_n, T.set_e, Nat.reduceDiv, Nat.reduceMod, sz217, ag217, stepAny, wantedA_none, k_vvalid ht, dec_f hv] <;> rfl)) | (with_reducible rw [ifQ_t]) | (with_reducible rw [ifQ_f]) | (with_reducible refine ifQ_intro ?_ ?_ <;> intro hb))
    subst hQ
    refine ret_back (by simp only [Tryz.results115, resultOf, resultsA, resultA, List.toList_toArray, Fr.ev, T.get_n, Nat.reduceDiv, Nat.reduceMod, Nat.reduceSub, Nat.reduceEqDiff, ↓reduceIte] <;> rfl) ?_
    exact ⟨_, by rw [printV_bad hv, codeV_f hv], by repeat (first | exact Same.base _ _ _ | refine Same.hset hw ?_ (ky_le _ _))⟩
theorem k_vprint {h : Heap} {F : Nat} {k n : Int} {t : List UInt8} (hn : in64 n) (ht : t.length ≤ maxLen) : CallF.fn (KT S) 115 [.agg [.int .i64 k, .int .i64 n, .str t]] ⟨h, F⟩ = some [.val (.tup [.str (printV k n t), .int .i64 (codeV k n t)]) ⟨h, F⟩] := kt_fn rfl (vprint h F k n t hn ht)
end

end Go.Proofs.YtfhgiadogeephaaGreatDoor

