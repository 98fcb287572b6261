/- A part of the proof of the law ReplayRings. CONDITIONS: those that each theorem names. -/
import Derived.Test.YtpgkhpfogjclhaaGreatDoorSPRules
import Derived.Test.YtpgkhpfogjclhaaGreatDoorRQ
import Derived.Test.YtpgkhpfogjclhaaGreatDoorBLaw
/-! Rows of truth values; lists of lists. -/
namespace Go.Ai
open Go
variable {P : Program} {G : Glob}
def bools (bs : List Bool) : List AV := bs.map AV.bool
noncomputable def bRow (bs : List Bool) : AB := mkRow (bools bs) 1
theorem bools_get {bs : List Bool} {j : Nat} {v : Bool} (h : bs[j]? = some v) : (bools bs)[j]? = some (.bool v) := by simp [bools, h]
theorem rd_b {bs : List Bool} {j : Nat} {v : Bool} (h : bs[j]? = some v) : rdAB (some (bRow bs)) (j * 1) 1 = some [.bool v] := by
  have hj := (List.getElem?_eq_some_iff.1 (bools_get h)).1
  rw [bRow, rdAB_row, if_pos (by omega), Nat.mul_one]
  have := bools_get h
  rw [List.getElem?_eq_getElem hj] at this
  rw [List.drop_eq_getElem_cons hj, Option.some.inj this]
  rfl
theorem bools_set (bs : List Bool) (j : Nat) (v : Bool) : (bools bs).set j (.bool v) = bools (bs.set j v) := by simp [bools, List.map_set]
theorem wr_b {h : Heap} {id : Nat} {bs : List Bool} {j : Nat} {v : Bool} (hj : j < bs.length) : wrAB h id (some (bRow bs)) (j * 1) [.bool v] = some (hset h id (bRow (bs.set j v))) := by
  have hl : (bools bs).length = bs.length := by simp [bools]
  rw [bRow, wrAB_row, if_pos ⟨by simp only [List.length_cons, List.length_nil]; omega, rfl⟩, Nat.mul_one]
  simp only [ovr, bools_set]
  rfl
theorem repl_bools (n : Nat) : repl [AV.bool false] n = bools (List.replicate n false) := by
  induction n with
  | zero => rfl
  | succ n ih => rw [repl, ih]; rfl
theorem nMS_b {e : TypeId} {by' key n : Nat} (hs : sizeT P e = some 1) (hb : bytesT P e = some by') (hz : zeroT P e = some (.bool false)) (hn : by' * n ≤ 1073741824) (hn2 : n ≤ 1073741824) :
    nMS P key (some (.slice e)) (some (.int .i64 (n : Int))) (some (.int .i64 (n : Int))) = some (.slice key 0 0 n (some n), bRow (List.replicate n false)) := by
  have e1 : Nat.ble n n = true := Nat.ble_eq_true_of_le (Nat.le_refl _)
  have e2 : Nat.ble (by' * n) 1073741824 = true := Nat.ble_eq_true_of_le hn
  have e3 : Nat.ble n 1073741824 = true := Nat.ble_eq_true_of_le hn2
  have e4 : Nat.blt 0 1 = true := rfl
  have e5 : Nat.beq 1 1 = true := rfl
  simp only [nMS, nMS1, nMS2, natOf_c, hs, hb, hz, e1, e2, e3, e4, AV.cells, List.length_cons, List.length_nil, Nat.zero_add, e5, Bool.and_self, rowOf_mk, repl_bools]
  rfl
/-! ### lists of lists -/
/-- a slice of slices; each holds such elements -/
def Lst2 (h : Heap) (ks : List CK) (a : AV) (LL : List (List (List AV))) : Prop :=
  ∃ X : List (List AV), LstP h [.l] a X ∧ X.length = LL.length ∧ ∀ (i : Nat) (l : List (List AV)), LL[i]? = some l → ∃ x, X[i]? = some [x] ∧ LstP h ks x l
section
variable {h h1 : Heap} {ks : List CK} {a : AV} {LL : List (List (List AV))}
theorem Lst2.same (hl : Lst2 h ks a LL) (hs : SameH h h1) : Lst2 h1 ks a LL := by
  obtain ⟨X, h1, h2, h3⟩ := hl
  exact ⟨X, h1.same hs, h2, fun i l hi => let ⟨x, e, hx⟩ := h3 i l hi; ⟨x, e, hx.same hs⟩⟩
theorem Lst2.len (hl : Lst2 h ks a LL) : LL.length ≤ maxLen := by obtain ⟨X, h1, h2, _⟩ := hl; rw [← h2]; exact h1.len
theorem rLen1_L2 {t e : TypeId} {h2 : Heap} (hu : P.underlying t = some (.slice e)) (hl : Lst2 h ks a LL) : rLen1 P h2 t (some a) = some (.int .i64 (LL.length : Int)) := by
  obtain ⟨X, h1, h2, _⟩ := hl
  rw [rLen1_L hu h1, h2]
theorem Lst2.at {F : Nat} (hw : Wf ⟨h, F⟩) (hl : Lst2 h ks a LL) (hs : SameH h h1) {i : Nat} {l : List (List AV)} (hi : LL[i]? = some l) : ∃ b o eo cap x, a = .slice b o eo LL.length cap ∧ b < ky F 0 ∧ rdAB (hget h1 b) (o + i * 1) 1 = some [x] ∧ LstP h ks x l := by
  obtain ⟨X, k1, k2, k3⟩ := hl
  obtain ⟨x, e, hx⟩ := k3 i l hi
  have hil := (List.getElem?_eq_some_iff.1 e).1
  obtain ⟨b, o, eo, cap, e1, h0, _⟩ := k1.at hil
  rw [List.getElem?_eq_getElem hil] at e
  rw [Option.some.inj e] at h0
  exact ⟨b, o, eo, cap, x, by rw [e1, k2], rd_low hw h0, hs.rd h0, hx⟩
end
/-! ### causes: a text and a number -/
def ksC : List CK := [.s, .i .i64]
def seqOf : List AV → Int
  | [_, .int _ n] => n
  | _ => 0
def seqs (l : List (List AV)) : List Int := l.map seqOf
theorem cks_C {l : List AV} (h : cksOk ksC l) : ∃ s n, l = [.str s, .int .i64 n] := by
  obtain ⟨a, r, rfl, ha, b, r2, rfl, hb, hr⟩ := h
  simp only [cksOk] at hr
  subst hr
  cases a <;> simp only [ckOk] at ha <;> try exact ha.elim
  cases b <;> simp only [ckOk] at hb <;> try exact hb.elim
  obtain ⟨rfl, _⟩ := hb
  exact ⟨_, _, rfl⟩
theorem cause_at {h h1 : Heap} {F : Nat} {a : AV} {L : List (List AV)} (hw : Wf ⟨h, F⟩) (hl : LstP h ksC a L) (hs : SameH h h1) {i : Nat} (hi : i < L.length) : ∃ b o eo cap s n, a = .slice b o eo L.length cap ∧ b < ky F 0 ∧ (seqs L)[i]? = some n ∧
    rdAB (hget h1 b) (o + i * 2) 2 = some [.str s, .int .i64 n] ∧ rdAB (hget h1 b) (o + i * 2 + 1) 1 = some [.int .i64 n] := by
  obtain ⟨b, o, eo, cap, e, h0, hp⟩ := hl.at hi
  obtain ⟨s, n, el⟩ := cks_C (hl.ok hi)
  have h2 := hp 1 1 (by decide)
  rw [el] at h0 h2
  refine ⟨b, o, eo, cap, s, n, e, rd_low hw h0, ?_, hs.rd h0, hs.rd h2⟩
  rw [seqs, List.getElem?_map, List.getElem?_eq_getElem hi, el]
  rfl
end Go.Ai
namespace Go.Ai
open Go
theorem foldl_take {α β : Type} {f : β → α → β} {b : β} {l : List α} {k : Nat} {x : α} (h : l[k]? = some x) : (l.take (k + 1)).foldl f b = f ((l.take k).foldl f b) x := by
  rw [List.take_add_one, h, List.foldl_append]
  rfl
theorem marks_at {i : Nat} {b : List Bool} {l : List Int} {k : Nat} {v : Bool} (h : b[i]? = some v) : ((l.take k).foldl (bmark i) b)[i]? = some v := by rw [marks_high (Nat.le_refl i)]; exact h
theorem mark_hit {i m : Nat} {b : List Bool} (h : m < i) : bmark i b (m : Int) = b.set m true := by unfold bmark; rw [if_pos ⟨by omega, by omega⟩]; simp
theorem mark_miss {i : Nat} {b : List Bool} {c : Int} (h : ¬ (0 ≤ c ∧ c < i)) : bmark i b c = b := by unfold bmark; rw [if_neg h]
theorem ge_t {a b : Int} (h : a ≤ b) : decide (a ≤ b) = true := decide_eq_true h
theorem ge_f {a b : Int} (h : ¬ a ≤ b) : decide (a ≤ b) = false := decide_eq_false h
theorem ls_t {a b : Int} (h : a < b) : decide (a < b) = true := decide_eq_true h
theorem ls_f {a b : Int} (h : ¬ a < b) : decide (a < b) = false := decide_eq_false h
end Go.Ai
namespace Go.Ai
open Go
variable {P : Program}
theorem same_kill2 {h0 h1 : Heap} {F lc : Nat} {l : AV} {zs : List Int} (hw : Wf ⟨h0, F⟩) {h : Heap} (hi : IL h1 F lc l zs) (hs : SameH h0 h) : SameH h0 (kill h l) := by
  rcases hi with ⟨rfl, _⟩ | ⟨_, c, _, rfl, _⟩
  · exact hs
  · exact SameH.hset hw hs (ky_le F c)
theorem IL.new' {h : Heap} {F lc c : Nat} {zs ys : List Int} {x : Int} (hl : c < lc) (he : ys = zs ++ [x]) : IL (hset h (ky F c) (mkRow (ints (zs ++ [x])) 1)) F lc (.slice (ky F c) 0 0 (zs ++ [x]).length none) ys := by
  subst he
  exact IL.new hl (by rw [List.length_append]; exact Nat.succ_pos _)
theorem nBS_int {e key : Nat} {x : Int} (hs : sizeT P e = some 1) (hz : zeroT P e = some (.int .i64 0)) : nBS P key 1 (some (.slice e)) (some [(0, .int .i64 x)]) = some (.slice key 0 0 1 (some 1), mkRow [.int .i64 x] 1) := by
  simp only [nBS, hs, hz, nBS2, Nat.one_mul, AV.cells, List.length_cons, List.length_nil, repl, buildArr, nBS3, rowOf_mk]
  rfl
theorem app_ints2 {t e by' key F lc f a b : Nat} {h : Heap} {l : AV} {zs : List Int} {x : Int} (hu : P.underlying t = some (.slice e)) (hs : sizeT P e = some 1) (hb : bytesT P e = some by') (hz : zeroOk P e 1 by' = true) (hby : by' ≤ 1000)
    (hi : IL h F lc l zs) (hn : zs.length ≤ 1000) {cap : Option Nat} :
    appendA P t t key ⟨hset h (ky F (lc + a + b)) (mkRow [.int .i64 x] 1), f⟩ l (.slice (ky F (lc + a + b)) 0 0 1 cap) = some (.slice key 0 0 (zs ++ [x]).length none, ⟨hset (kill (hset h (ky F (lc + a + b)) (mkRow [.int .i64 x] 1)) l) key (mkRow (ints (zs ++ [x])) 1), f⟩) :=
  app_ints hu hu hs hb hz hby hi (by omega) hn
theorem readUp_len (b : List Bool) (i : Nat) : (readUp b i).length ≤ i := by
  unfold readUp
  rw [List.length_map]
  exact Nat.le_trans (List.length_filter_le _ _) (by simp)
theorem readUp_zero (b : List Bool) : readUp b 0 = [] := rfl
end Go.Ai
namespace Go.Ai
open Go
theorem ints_bools {zs : List Int} {b : List Bool} (hp : 0 < zs.length) (e : mkRow (ints zs) 1 = bRow b) : False := by
  have := mkRow_inj e
  cases zs with
  | nil => simp at hp
  | cons z zs =>
    cases b with
    | nil => simp [ints, bools] at this
    | cons c b => simp [ints, bools] at this
theorem kill_get {h h' : Heap} {F lc k : Nat} {l : AV} {zs : List Int} {b : List Bool} (hi : IL h F lc l zs) (hk : hget h k = some (bRow b)) : hget (kill h' l) k = hget h' k := by
  rcases hi with ⟨rfl, _⟩ | ⟨hp, c, _, rfl, hg⟩
  · rfl
  · simp only [kill]
    rw [hget_hset, if_neg]
    intro e
    rw [e, hg] at hk
    exact ints_bools hp (Option.some.inj hk)
end Go.Ai
namespace Go.Ai
open Go
abbrev ksN : List CK := [.i .i64]
def iL (zs : List Int) : List (List AV) := zs.map fun z => [AV.int .i64 z]
theorem iL_len (zs : List Int) : (iL zs).length = zs.length := by simp [iL]
theorem iL_flat (zs : List Int) : (iL zs).flatten = ints zs := by
  induction zs with
  | nil => rfl
  | cons z zs ih =>
    show [AV.int .i64 z] ++ (iL zs).flatten = _
    rw [ih]; rfl
theorem iL_one (zs : List Int) : ∀ x ∈ iL zs, x.length = 1 := by
  intro x hx
  obtain ⟨z, _, rfl⟩ := List.mem_map.1 hx
  rfl
end Go.Ai
