/- A part of the proof of the law ReplayRings. CONDITIONS: those that each theorem names. -/
import Derived.Test.YtpgkhpfogjclhaaGreatDoorSPHash
/-! Lists of numbers that grow; rounds that are known. -/
namespace Go.Ai
open Go
variable {P : Program} {G : Glob} {K : CallF} {m : Nat} {Q : Ex → Fr → St → Prop}

/-! ### a loop, round by round -/
def unQ (P : Program) (G : Glob) (K : CallF) (m : Nat) (b : Code) (k : Nat) (Q : Ex → Fr → St → Prop) : Ex → Fr → St → Prop
  | .normal, fr, s => WR (iter (code P G K m b) k fr s) Q
  | e, fr, s => Q e fr s
theorem r_un {b : Code} {k : Nat} {fr : Fr} {s : St} (h : WR (code P G K m b fr s) (unQ P G K m b k Q)) : WR (iter (code P G K m b) (k + 1) fr s) Q := by
  rw [iter, wr_bind]
  refine h.mono ?_
  intro e fr' s' q
  cases e with
  | normal => exact q
  | exit j => rw [wr_one]; exact q
  | ret => rw [wr_one]; exact q
  | pan v => rw [wr_one]; exact q
theorem r_loopU {b : Code} {fr : Fr} {s : St} (h : WR (iter (code P G K m b) m fr s) Q) : WR (code P G K m (.loop b) fr s) Q := by
  rw [code]; exact h
theorem r_uq_n {b : Code} {k : Nat} {fr : Fr} {s : St} (h : WR (iter (code P G K m b) k fr s) Q) : unQ P G K m b k Q .normal fr s := h
theorem r_uq_exit {b : Code} {k i : Nat} {fr : Fr} {s : St} (h : Q (.exit i) fr s) : unQ P G K m b k Q (.exit i) fr s := h
theorem r_uq_ret {b : Code} {k : Nat} {fr : Fr} {s : St} (h : Q .ret fr s) : unQ P G K m b k Q .ret fr s := h

/-! ### append -/
section
variable {t e t2 e2 : TypeId} {es by' key : Nat} {s : St} {b : AV}
theorem app_nil0 (hu : P.underlying t = some (.slice e)) (h2 : P.underlying t2 = some (.slice e2)) (hs : sizeT P e = some es) (hb : bytesT P e = some by') (hz : zeroOk P e es by' = true)
    (hsrc : srcCells s.h es b = some (0, [])) : appendA P t t2 key s .nils b = some (.nils, s) := by
  simp only [appendA, hu, h2, hs, hb, hz, hsrc]
theorem app_nil (hu : P.underlying t = some (.slice e)) (h2 : P.underlying t2 = some (.slice e2)) (hs : sizeT P e = some es) (hb : bytesT P e = some by') (hz : zeroOk P e es by' = true)
    {n : Nat} {news : List AV} (hsrc : srcCells s.h es b = some (n, news)) (hp : 0 < n) (hn : n ≤ 100000) (hby : by' ≤ 1000) : appendA P t t2 key s .nils b = some (.slice key 0 0 n none, s.upd key (mkRow news es)) := by
  obtain ⟨n, rfl⟩ : ∃ k, n = k + 1 := ⟨n - 1, by omega⟩
  have hble : Nat.ble ((2 * (n + 1) + 1024) * by') 281474976710656 = true := by
    rw [Nat.ble_eq]; exact Nat.le_trans (Nat.mul_le_mul (by omega : 2 * (n + 1) + 1024 ≤ 201024) hby) (by decide)
  simp only [appendA, hu, h2, hs, hb, hz, hsrc, hble, rowOf_mk]
theorem app_same (hu : P.underlying t = some (.slice e)) (h2 : P.underlying t2 = some (.slice e2)) (hs : sizeT P e = some es) (hb : bytesT P e = some by') (hz : zeroOk P e es by' = true)
    {id off eo len : Nat} {cap : Option Nat} {news : List AV} (hsrc : srcCells s.h es b = some (0, news)) (hn : len ≤ 100000) (hby : by' ≤ 1000) : appendA P t t2 key s (.slice id off eo len cap) b = some (.slice id off eo len cap, s) := by
  have hble : Nat.ble ((2 * (len + 0) + 1024) * by') 281474976710656 = true := by
    rw [Nat.ble_eq]; exact Nat.le_trans (Nat.mul_le_mul (by omega : 2 * (len + 0) + 1024 ≤ 201024) hby) (by decide)
  simp only [appendA, hu, h2, hs, hb, hz, hsrc, hble]
theorem app_open (hu : P.underlying t = some (.slice e)) (h2 : P.underlying t2 = some (.slice e2)) (hs : sizeT P e = some es) (hb : bytesT P e = some by') (hz : zeroOk P e es by' = true)
    {id len n : Nat} {l news : List AV} (hsrc : srcCells s.h es b = some (n, news)) (hp : 0 < n) (hes : 0 < es) (hid : hget s.h id = some (mkRow l es)) (hl : l.length = len * es) (hc : allCell news = true) (hn : len + n ≤ 100000) (hby : by' ≤ 1000) :
    appendA P t t2 key s (.slice id 0 0 len none) b = some (.slice key 0 0 (len + n) none, ⟨hset (hset s.h id .dead) key (mkRow (l ++ news) es), s.fc⟩) := by
  obtain ⟨n, rfl⟩ : ∃ k, n = k + 1 := ⟨n - 1, by omega⟩
  have hble : Nat.ble ((2 * (len + (n + 1)) + 1024) * by') 281474976710656 = true := by
    rw [Nat.ble_eq]; exact Nat.le_trans (Nat.mul_le_mul (by omega : 2 * (len + (n + 1)) + 1024 ≤ 201024) hby) (by decide)
  have hfit : Nat.ble (0 + (len + (n + 1)) * es) l.length = false := by
    rw [hl]
    have : ¬ (0 + (len + (n + 1)) * es ≤ len * es) := by
      rw [Nat.zero_add, Nat.add_mul]
      have : 0 < (n + 1) * es := Nat.mul_pos (by omega) hes
      omega
    cases hq : Nat.ble (0 + (len + (n + 1)) * es) (len * es) with
    | false => rfl
    | true => exact absurd (Nat.le_of_ble_eq_true hq) this
  have hrd : readCells s.h id 0 (len * es) = some l := by
    rw [readCells_eq, hid, rdAB_row, if_pos (by omega), List.drop_zero, List.take_of_length_le (by omega)]
  have hbb : (Nat.beq es es && Nat.beq 0 (0 * es) && allCell news) = true := by
    rw [hc, Nat.zero_mul]; simp
  simp only [appendA, hu, h2, hs, hb, hz, hsrc, hble, hid]
  simp only [mkRow, hfit, hbb, hrd, rowOf_mk, St.upd_eq]
theorem app_fit (hu : P.underlying t = some (.slice e)) (h2 : P.underlying t2 = some (.slice e2)) (hs : sizeT P e = some es) (hb : bytesT P e = some by') (hz : zeroOk P e es by' = true)
    {id len n : Nat} {l news : List AV} (hsrc : srcCells s.h es b = some (n, news)) (hp : 0 < n) (hid : hget s.h id = some (mkRow l es)) (hl : (len + n) * es ≤ l.length) (hnl : news.length = n * es) (hc : allCell news = true) (hn : len + n ≤ 100000) (hby : by' ≤ 1000) :
    appendA P t t2 key s (.slice id 0 0 len none) b = some (.slice id 0 0 (len + n) none, s.withH (hset s.h id (mkRow (ovr l (len * es) news) es))) := by
  obtain ⟨n, rfl⟩ : ∃ k, n = k + 1 := ⟨n - 1, by omega⟩
  have hble : Nat.ble ((2 * (len + (n + 1)) + 1024) * by') 281474976710656 = true := by
    rw [Nat.ble_eq]; exact Nat.le_trans (Nat.mul_le_mul (by omega : 2 * (len + (n + 1)) + 1024 ≤ 201024) hby) (by decide)
  have hfit : Nat.ble (0 + (len + (n + 1)) * es) l.length = true := by rw [Nat.ble_eq]; omega
  have hbb : (Nat.beq es es && Nat.beq 0 (0 * es)) = true := by rw [Nat.zero_mul]; simp
  have hw : writeCells s.h id (0 + len * es) news = some (hset s.h id (mkRow (ovr l (len * es) news) es)) := by
    rw [writeCells_wr, hid, wrAB_row, if_pos ⟨by rw [hnl, Nat.zero_add, ← Nat.add_mul]; exact hl, hc⟩, Nat.zero_add]
  simp only [appendA, hu, h2, hs, hb, hz, hsrc, hble, hid]
  rw [show (mkRow l es) = .row (T.e.setList 0 l) l.length es from rfl]
  simp only [hfit, hbb, hw]
theorem app_cap0 (hu : P.underlying t = some (.slice e)) (h2 : P.underlying t2 = some (.slice e2)) (hs : sizeT P e = some es) (hb : bytesT P e = some by') (hz : zeroOk P e es by' = true)
    {id n : Nat} {news : List AV} (hsrc : srcCells s.h es b = some (n, news)) (hp : 0 < n) (hid : hget s.h id = some (mkRow [] es)) (hn : n ≤ 100000) (hby : by' ≤ 1000) :
    appendA P t t2 key s (.slice id 0 0 0 (some 0)) b = some (.slice key 0 0 n none, s.upd key (mkRow news es)) := by
  obtain ⟨n, rfl⟩ : ∃ k, n = k + 1 := ⟨n - 1, by omega⟩
  have hble : Nat.ble ((2 * (0 + (n + 1)) + 1024) * by') 281474976710656 = true := by
    rw [Nat.ble_eq]; exact Nat.le_trans (Nat.mul_le_mul (by omega : 2 * (0 + (n + 1)) + 1024 ≤ 201024) hby) (by decide)
  have h0 : readCells s.h id 0 (0 * es) = some [] := by rw [readCells_eq, hid, Nat.zero_mul, rdAB_row]; rfl
  have h1 : Nat.ble (n + 1) 0 = false := rfl
  simp only [appendA, hu, h2, hs, hb, hz, hsrc, hble, hid, mkRow]
  simp only [Nat.zero_add, h1, h0, List.nil_append, rowOf_mk, mkRow]
end

/-! ### a list of numbers of this frame -/
def IL (h : Heap) (F lc : Nat) (l : AV) (zs : List Int) : Prop :=
  (l = .nils ∧ zs = []) ∨ (0 < zs.length ∧ ∃ c, c < lc ∧ l = .slice (ky F c) 0 0 zs.length none ∧ hget h (ky F c) = some (mkRow (ints zs) 1))
noncomputable def kill (h : Heap) : AV → Heap
  | .slice k _ _ _ _ => hset h k .dead
  | _ => h
theorem IL.nil {h : Heap} {F lc : Nat} : IL h F lc .nils [] := .inl ⟨rfl, rfl⟩
theorem IL.up {h : Heap} {F lc lc' : Nat} {l : AV} {zs : List Int} (hi : IL h F lc l zs) (hl : lc ≤ lc') : IL h F lc' l zs := by
  rcases hi with c | ⟨hp, c, h1, h2, h3⟩
  · exact .inl c
  · exact .inr ⟨hp, c, by omega, h2, h3⟩
theorem IL.set {h : Heap} {F lc c : Nat} {b : AB} {l : AV} {zs : List Int} (hi : IL h F lc l zs) (hl : lc ≤ c) : IL (hset h (ky F c) b) F lc l zs := by
  rcases hi with c' | ⟨hp, c', h1, h2, h3⟩
  · exact .inl c'
  · refine .inr ⟨hp, c', h1, h2, ?_⟩
    rw [hget_hset, if_neg (by rw [ky_inj]; omega)]; exact h3
theorem IL.new {h : Heap} {F lc c : Nat} {zs : List Int} (hl : c < lc) (hp : 0 < zs.length) : IL (hset h (ky F c) (mkRow (ints zs) 1)) F lc (.slice (ky F c) 0 0 zs.length none) zs :=
  .inr ⟨hp, c, hl, rfl, by rw [hget_hset, if_pos rfl]⟩
theorem same_kill {h0 h : Heap} {F lc : Nat} {l : AV} {zs : List Int} (hw : Wf ⟨h0, F⟩) (hs : SameH h0 h) (hi : IL h F lc l zs) : SameH h0 (kill h l) := by
  rcases hi with ⟨rfl, _⟩ | ⟨_, c, _, rfl, _⟩
  · exact hs
  · exact SameH.hset hw hs (ky_le F c)
theorem app_ints {t e t2 e2 : TypeId} {by' key F lc c f : Nat} {h : Heap} {l : AV} {zs : List Int} {x : Int}
    (hu : P.underlying t = some (.slice e)) (h2 : P.underlying t2 = some (.slice e2)) (hs : sizeT P e = some 1) (hb : bytesT P e = some by') (hz : zeroOk P e 1 by' = true) (hby : by' ≤ 1000)
    (hi : IL h F lc l zs) (hc : lc ≤ c) (hn : zs.length ≤ 1000) {cap : Option Nat} :
    appendA P t t2 key ⟨hset h (ky F c) (mkRow [.int .i64 x] 1), f⟩ l (.slice (ky F c) 0 0 1 cap) = some (.slice key 0 0 (zs ++ [x]).length none, ⟨hset (kill (hset h (ky F c) (mkRow [.int .i64 x] 1)) l) key (mkRow (ints (zs ++ [x])) 1), f⟩) := by
  have hsrc : srcCells (hset h (ky F c) (mkRow [.int .i64 x] 1)) 1 (.slice (ky F c) 0 0 1 cap) = some (1, [.int .i64 x]) := by
    simp only [srcCells, readCells_eq, hget_hset, if_true, rdAB_row]; rfl
  rcases hi.set (b := mkRow [.int .i64 x] 1) hc with ⟨rfl, rfl⟩ | ⟨hp, c', h3, rfl, h4⟩
  · rw [app_nil (s := ⟨hset h (ky F c) (mkRow [.int .i64 x] 1), f⟩) (key := key) hu h2 hs hb hz hsrc (by omega) (by omega) hby, St.upd_eq]; rfl
  · rw [app_open (s := ⟨hset h (ky F c) (mkRow [.int .i64 x] 1), f⟩) (key := key) hu h2 hs hb hz hsrc (by omega) (by omega) h4 (by rw [ints_len, Nat.mul_one]) rfl (by omega) hby, List.length_append]
    simp only [ints, List.map_append, List.map_cons, List.map_nil, List.length_cons, List.length_nil, kill]
end Go.Ai
