/- A part of the proof of the law ReplayRings. CONDITIONS: those that each theorem names. -/
import Derived.Test.YtpgkhpfogjclhaaGreatDoorRFPoint
import Derived.Sort.Row
import Derived.Sort.Grow
import Derived.Test.YtpgkhpfogjclhaaGreatDoorSPLaw
/-! Calls that make one new block; the library's sort. -/
namespace Go.Ai
open Go
variable {P : Program} {G : Glob}

/-- a value in which no name is -/
def Flatv (a : AV) : Prop := ∀ (ρ ρ' : Map) (v : Value), RV ρ a v → RV ρ' a v
theorem flat_int (k : IntKind) (n : Int) : Flatv (.int k n) := fun _ _ _ r => r
theorem flat_str (s : List UInt8) : Flatv (.str s) := fun _ _ _ r => r
theorem ky_KK (F : Nat) : ky F 0 = F * KK := by unfold ky; rw [Nat.add_zero, Nat.mul_comm]; exact congrArg (F * ·) (Eq.trans rfl (Eq.refl KK))

/-- A CALL THAT HANDS BACK A NEW LIST: its garbage is forgotten. -/
theorem snd_block {f : FuncId} {args : List AV} {h : Heap} {F n es : Nat} {cap : Option Nat} {l : List AV} (hl : ∀ a ∈ l, Flatv a)
    (hs : Wf ⟨h, F⟩ → SndQ P G f args ⟨h, F⟩ (fun o => ∃ k h' F', o = .val (.slice k 0 0 n cap) ⟨h', F'⟩ ∧ SameH h h' ∧ ky F 0 ≤ k ∧ hget h' k = some (mkRow l es))) :
    Snd P G f args ⟨h, F⟩ [.val (.slice (ky F 0) 0 0 n cap) ⟨hset h (ky F 0) (mkRow l es), F + 1⟩] := by
  refine snd_wf fun hw => ?_
  intro base ρ w vs rv rm
  obtain ⟨outs, h1, h2⟩ := hs hw
  refine (h1 base ρ w vs rv rm).mono ?_
  rintro e w' ⟨ρ', ⟨v', s', u, ho, he, ru, hadv⟩ | ⟨v', s', u, ho, he, ru, hadv⟩⟩
  · obtain ⟨k, h', F', e1, hsame, hk, hrow⟩ := h2 _ ho
    cases e1
    obtain ⟨en, hen, ru⟩ := ru
    have hkk := ky_KK F
    have hnone : ρ (ky F 0) = none := rm.hi _ (by rw [hkk]; exact Nat.le_refl _)
    have hm := ext_mono (e := en) hnone
    have hnd : mkRow l es ≠ .dead := by unfold mkRow; simp
    obtain ⟨e', ob, g1, g2, g3, g4⟩ := hadv.st.rh.blk k _ hrow hnd
    rw [hen] at g1; cases g1
    have hlk : live (hget h') k := ⟨_, hrow, by unfold mkRow; simp⟩
    have hold : ∀ i ab, hget h i = some ab → ab ≠ .dead → i < ky F 0 := fun i ab hi hd => hw i ab hi hd
    have lold : ∀ i, i ≠ ky F 0 → live (hget (hset h (ky F 0) (mkRow l es))) i → live (hget h) i := by
      rintro i hne ⟨x, hx, hd⟩
      rw [hget_hset, if_neg hne] at hx
      exact ⟨x, hx, hd⟩
    have rold : ∀ i, i ≠ ky F 0 → ext ρ (ky F 0) en i = ρ i := fun i hne => by simp [ext, hne]
    have lup : ∀ i, live (hget h) i → live (hget h') i := by
      rintro i ⟨x, hx, hd⟩
      exact ⟨x, hsame i x hx hd.nd, hd⟩
    have apart : ∀ j ej, live (hget h) j → ρ j = some ej → ej.b ≠ en.b := by
      intro j ej lj hj hb
      have hkj := hadv.st.rh.inj j k ej en (lup j lj) hlk (hadv.st.mono _ _ hj) hen hb
      obtain ⟨x, hx, hd⟩ := lj
      have := hold j x hx hd.nd
      omega
    refine ⟨ext ρ (ky F 0) en, .inl ⟨_, _, u, List.mem_singleton.2 rfl, he, ⟨en, ext_self _ _, ru⟩, ⟨⟨hm, hadv.st.keeps, ⟨fun i ab hi hd => ?_, fun i j ei ej li lj hi hj hb => ?_⟩, ?_⟩, Nat.le_succ F, fun i hi _ => ?_, fun i hi => ?_⟩⟩⟩
    · simp only at hi
      rw [hget_hset] at hi
      split at hi
      · rename_i heq
        subst heq
        cases hi
        refine ⟨en, ob, ext_self _ _, g2, g3, ?_⟩
        obtain ⟨c, ty, lo, hi', k4, k5, k6, k7, k8, k9⟩ := g4
        refine ⟨c, ty, lo, hi', k4, k5, k6, k7, k8, fun i hi av hav => ?_⟩
        obtain ⟨v, hv, rv⟩ := k9 i hi av hav
        rw [T.get_setList] at hav
        split at hav
        · exact ⟨v, hv, hl av (List.mem_of_getElem? hav) _ _ _ rv⟩
        · exact absurd hav (by simp [T.get_e])
      · rename_i hne
        obtain ⟨e0, ob0, q1, q2, q3, q4⟩ := rm.rh.blk i ab hi hd
        obtain ⟨e1, ob1, p1, p2, p3, p4⟩ := hadv.st.rh.blk i ab (hsame i ab hi hd) hd
        rw [hadv.st.mono _ _ q1] at p1; cases p1
        exact ⟨_, ob1, hm _ _ q1, p2, p3, (rb_two hadv.st.mono q4 p4).mono hm⟩
    · by_cases c1 : i = ky F 0
      · by_cases c2 : j = ky F 0
        · rw [c1, c2]
        · rw [c1, ext_self] at hi; cases hi
          rw [rold j c2] at hj
          exact absurd hb.symm (apart j ej (lold j c2 lj) hj)
      · rw [rold i c1] at hi
        by_cases c2 : j = ky F 0
        · rw [c2, ext_self] at hj; cases hj
          exact absurd hb (apart i ei (lold i c1 li) hi)
        · rw [rold j c2] at hj
          exact rm.rh.inj i j ei ej (lold i c1 li) (lold j c2 lj) hi hj hb
    · rintro b ⟨i, ei, li, hi, hb⟩
      by_cases c1 : i = ky F 0
      · rw [c1, ext_self] at hi; cases hi
        exact hadv.st.grow b ⟨k, en, hlk, hen, hb⟩
      · rw [rold i c1] at hi
        exact .inl ⟨i, ei, lold i c1 li, hi, hb⟩
    · exact rold i (by simp only at hi; omega)
    · have h2 : (F + 1) * KK = F * KK + KK := succ_KK F
      have hKK : 0 < KK := by decide
      simp only at hi
      rw [rold i (by omega)]
      exact rm.hi i (by simp only; omega)
  · obtain ⟨k, h', F', e1, _⟩ := h2 _ ho
    cases e1

/-! ### the library's sort of numbers -/
def ints (zs : List Int) : List AV := zs.map (AV.int .i64)
theorem ints_len (zs : List Int) : (ints zs).length = zs.length := by simp [ints]
theorem ints_flat (zs : List Int) : ∀ a ∈ ints zs, Flatv a := by
  intro a ha
  obtain ⟨z, _, rfl⟩ := List.mem_map.1 ha
  exact flat_int _ _
theorem ints_inj : ∀ {a b : List Int}, ints a = ints b → a = b
  | [], [], _ => rfl
  | [], b :: bs, h => by simp [ints] at h
  | a :: as, [], h => by simp [ints] at h
  | a :: as, b :: bs, h => by
    simp only [ints, List.map_cons, List.cons.injEq, AV.int.injEq, true_and] at h
    rw [h.1, ints_inj h.2]
theorem mkRow_inj {a b : List AV} {es es' : Nat} (h : mkRow a es = mkRow b es') : a = b := by
  have hl : a.length = b.length := by unfold mkRow at h; injection h
  have h1 := rdAB_row a es 0 a.length
  have h2 := rdAB_row b es' 0 b.length
  rw [if_pos (by omega), List.drop_zero, List.take_of_length_le (by omega)] at h1 h2
  rw [h, hl, h2] at h1
  exact (Option.some.inj h1).symm
/-- the numbers that a block holds -/
noncomputable def rowInts (b : Option AB) : Option (List Int) := open Classical in if e : ∃ zs, b = some (mkRow (ints zs) 1) then some e.choose else none
theorem rowInts_eq {b : Option AB} {zs : List Int} (h : b = some (mkRow (ints zs) 1)) : rowInts b = some zs := by
  unfold rowInts
  rw [dif_pos ⟨zs, h⟩]
  have hc := Exists.choose_spec (⟨zs, h⟩ : ∃ zs, b = some (mkRow (ints zs) 1))
  exact congrArg some (ints_inj (mkRow_inj (Option.some.inj (hc.symm.trans h))))
theorem rowInts_p {b : Option AB} {zs : List Int} (h : rowInts b = some zs) : b = some (mkRow (ints zs) 1) := by
  unfold rowInts at h
  split at h
  · rename_i e
    have := e.choose_spec
    cases h; exact this
  · cases h

/-- the row of a slice of numbers, in the world -/
theorem holds_row {base : Nat} {ρ : Map} {g : GetF} {w : World} (rh : RH ρ base g w) {k : Nat} {zs : List Int} (hg : g k = some (mkRow (ints zs) 1)) {e : Ent} (he : ρ k = some e) :
    ∃ c ty lo hi, base ≤ e.b ∧ e.b < w.heap.size ∧ w.heap[e.b]? = some (.cells c ty (lo, hi)) ∧ e.o + zs.length ≤ c.size ∧ e.o + e.k ≤ c.size ∧ zs.length ≤ e.k ∧ (c.size ≤ lo ∨ hi ≤ lo) ∧ Go.Sort.Holds (Value.int .i64) w e.b e.o zs.toArray := by
  obtain ⟨e', ob, g1, g2, g3, c, ty, lo, hi, k4, k5, k6, k7, k8, k9⟩ := rh.blk k _ hg (by unfold mkRow; simp)
  rw [he] at g1; cases g1
  subst k4
  rw [ints_len] at k5 k7 k9
  rw [Nat.mul_one] at k6 k7
  refine ⟨c, ty, lo, hi, g2, (Array.getElem?_eq_some_iff.1 g3).1, g3, k5, k6, k7 (by omega), k8, fun j hj => ?_⟩
  rw [List.size_toArray] at hj
  have hget : (T.setList (T.e : T AV) 0 (ints zs)).get j = some (.int .i64 zs[j]) := by
    rw [T.get_setList, if_pos (by rw [ints_len]; omega)]
    simp [ints, hj]
  obtain ⟨v, hv, rv⟩ := k9 j hj _ hget
  simp only [RV] at rv
  subst rv
  have hlt : e.o + j < c.size := by omega
  refine ⟨?_, ?_⟩
  · simp only [World.cell?, g3]
    rw [getElem!_pos _ j (by simpa using hj)]
    simpa using hv
  · simp only [World.frozen?, g3]
    rcases k8 with h8 | h8
    · have : ¬ lo ≤ e.o + j := by omega
      simp [this]
    · by_cases h : lo ≤ e.o + j
      · have : ¬ e.o + j < hi := by omega
        simp [this]
      · simp [h]
/-- the world behind it -/
theorem adv_row {base : Nat} {ρ : Map} {h : Heap} {F : Nat} {w : World} (rm : RM G base ρ ⟨h, F⟩ w) {k : Nat} {zs ys : List Int} (hg : hget h k = some (mkRow (ints zs) 1)) (hlen : ys.length = zs.length) {e : Ent} (he : ρ k = some e) (n : Nat) (os : Array Obj) :
    Adv base (fun _ => False) ρ ⟨h, F⟩ w ρ ⟨hset h k (mkRow (ints ys) 1), F⟩ (Go.Sort.grow (Go.Sort.putRow (Value.int .i64) (Go.Sort.ahead w n) e.b e.o ys.toArray) os) := by
  obtain ⟨c, ty, lo, hi, b0, b1, hob, hs1, hs2, hs3, hfr, hH⟩ := holds_row rm.rh hg he
  have hmine : Mine (mkRow (ints zs) 1) := by unfold mkRow; simp
  have hat : (Go.Sort.putRow (Value.int .i64) (Go.Sort.ahead w n) e.b e.o ys.toArray).heap[e.b]? = some (.cells (Go.Sort.putCells (Value.int .i64) e.o ys.toArray c) ty (lo, hi)) := by
    simp only [Go.Sort.putRow, Go.Sort.mapBlock, Go.Sort.heap_ahead, Array.getElem?_modify, if_true, hob, Option.map_some, Go.Sort.onCells]
  have hoth : ∀ b, b ≠ e.b → (Go.Sort.putRow (Value.int .i64) (Go.Sort.ahead w n) e.b e.o ys.toArray).heap[b]? = w.heap[b]? := fun b hb => by
    simp only [Go.Sort.putRow, Go.Sort.mapBlock, Go.Sort.heap_ahead, Array.getElem?_modify, if_neg (Ne.symm hb)]
  have hst : Stp ρ base (hget h) w ρ (hget (hset h k (mkRow (ints ys) 1))) (Go.Sort.putRow (Value.int .i64) (Go.Sort.ahead w n) e.b e.o ys.toArray) := by
    refine Stp.upd rm.rh hg hmine (by unfold mkRow; simp) he rfl rfl rfl (by rw [Go.Sort.size_putRow]; rfl) hat hoth ?_
    have hsz : (Go.Sort.putCells (Value.int .i64) e.o ys.toArray c).size = c.size := by simp [Go.Sort.putCells]
    refine ⟨_, ty, lo, hi, rfl, ?_, ?_, fun _ => ?_, ?_, fun i hi' av hav => ?_⟩
    · rw [hsz, ints_len]; omega
    · rw [hsz]; omega
    · rw [ints_len]; omega
    · rw [hsz]; exact hfr
    · rw [ints_len] at hi'
      rw [T.get_setList, if_pos (by rw [ints_len]; omega)] at hav
      have hv : av = .int .i64 ys[i] := by
        simp only [Nat.sub_zero, ints, List.getElem?_map, List.getElem?_eq_getElem hi', Option.map_some, Option.some.injEq] at hav
        exact hav.symm
      subst hv
      refine ⟨.int .i64 ys[i], ?_, rfl⟩
      have hlt : e.o + i < c.size := by omega
      simp only [Go.Sort.putCells, Array.getElem?_mapIdx, Array.getElem?_eq_getElem hlt, Option.map_some]
      rw [if_pos (by rw [List.size_toArray]; omega), show e.o + i - e.o = i by omega, getElem!_pos _ i (by simpa using hi')]
      simp
  have a1 : Adv base (fun _ => False) ρ ⟨h, F⟩ w ρ ⟨hset h k (mkRow (ints ys) 1), F⟩ (Go.Sort.putRow (Value.int .i64) (Go.Sort.ahead w n) e.b e.o ys.toArray) := ⟨hst, Nat.le_refl _, fun _ _ _ => rfl, rm.hi⟩
  refine a1.trans ((rm.adv a1).keeps ⟨rfl, rfl, rfl, by simp [Go.Sort.grow], fun b hb _ => ?_⟩)
  simp only [Go.Sort.grow]
  exact Array.getElem?_append_left hb

def SortC (P : Program) (f : FuncId) : Prop := ∀ (blk off cap : Nat) (zs : List Int) (w : World), Go.Sort.Holds (Value.int .i64) w blk off zs.toArray → blk < w.heap.size → zs.length < 4611686018427387904 →
  Calls P f #[.slice (some ⟨blk, off, none⟩) zs.length cap] w fun e w' => e = .returned (.tuple #[]) ∧ ∃ n os, w' = Go.Sort.grow (Go.Sort.putRow (Value.int .i64) (Go.Sort.ahead w n) blk off (zs.mergeSort fun x y => decide (x ≤ y)).toArray) os
def CompC (P : Program) (f : FuncId) : Prop := ∀ (blk off cap : Nat) (zs : List Int) (w : World), Go.Sort.Holds (Value.int .i64) w blk off zs.toArray → zs.length ≤ 9223372036854775807 → zs.length ≤ cap →
  Calls P f #[.slice (some ⟨blk, off, none⟩) zs.length cap] w fun e w' => e = .returned (.slice (some ⟨blk, off, none⟩) (Lib.compact zs).length cap) ∧ ∃ q, w' = Go.Sort.putRow (Value.int .i64) (Go.Sort.ahead w q) blk off (Lib.compact zs ++ List.replicate (zs.length - (Lib.compact zs).length) 0).toArray
theorem snd_sort (hn : NoNum P) {f : FuncId} {fn : Func} {c : Code} (hf : P.funcs[f]? = some fn) (hb : fn.body = some c) (hc : SortC P f) {h : Heap} {F k : Nat} {zs : List Int} (hg : hget h k = some (mkRow (ints zs) 1)) (hp : 0 < zs.length) (hm : zs.length ≤ 1000000) :
    Snd P G f [.slice k 0 0 zs.length none] ⟨h, F⟩ [.val (.tup []) ⟨hset h k (mkRow (ints (sorted zs)) 1), F⟩] := by
  intro base ρ w vs rv rm
  obtain ⟨v, vs', ⟨e, he, o', r1, r2, r3⟩, rfl, rfl⟩ := rv
  obtain ⟨c', ty, lo, hi, b0, b1, hob, hs1, hs2, hs3, hfr, hH⟩ := holds_row rm.rh hg he
  have ho := r2 (by omega)
  subst ho
  subst r3
  rw [callFunc_enter hn hf hb]
  refine Calls.mono (hc e.b (e.o + 0) (e.k - 0) zs w hH b1 (by omega)) ?_
  rintro x w' ⟨rfl, n, os, rfl⟩
  exact ⟨ρ, .inl ⟨.tup [], _, .tuple #[], List.mem_singleton.2 rfl, rfl, ⟨[], rfl, rfl⟩, adv_row rm hg (sorted_len zs) he n os⟩⟩
theorem snd_compact (hn : NoNum P) {f : FuncId} {fn : Func} {c : Code} (hf : P.funcs[f]? = some fn) (hb : fn.body = some c) (hc : CompC P f) {h : Heap} {F k : Nat} {zs : List Int} (hg : hget h k = some (mkRow (ints zs) 1)) (hp : 0 < zs.length) (hm : zs.length ≤ 1000000) :
    Snd P G f [.slice k 0 0 zs.length none] ⟨h, F⟩ [.val (.slice k 0 0 (Lib.compact zs).length none) ⟨hset h k (mkRow (ints (Lib.compact zs ++ List.replicate (zs.length - (Lib.compact zs).length) 0)) 1), F⟩] := by
  intro base ρ w vs rv rm
  obtain ⟨v, vs', ⟨e, he, o', r1, r2, r3⟩, rfl, rfl⟩ := rv
  obtain ⟨c', ty, lo, hi, b0, b1, hob, hs1, hs2, hs3, hfr, hH⟩ := holds_row rm.rh hg he
  have ho := r2 (by omega)
  subst ho
  subst r3
  have hle := compact_le zs
  rw [callFunc_enter hn hf hb]
  refine Calls.mono (hc e.b (e.o + 0) (e.k - 0) zs w hH (by omega) (by omega)) ?_
  rintro x w' ⟨rfl, n, rfl⟩
  have := adv_row (ys := Lib.compact zs ++ List.replicate (zs.length - (Lib.compact zs).length) 0) rm hg (by simp; omega) he n #[]
  simp only [Go.Sort.grow, Array.append_empty] at this
  exact ⟨ρ, .inl ⟨_, _, _, List.mem_singleton.2 rfl, rfl, ⟨e, he, 0, by omega, fun _ => rfl, rfl⟩, this⟩⟩
/-- a call that changes nothing -/
theorem snd_calls (hn : NoNum P) {f : FuncId} {fn : Func} {c : Code} (hf : P.funcs[f]? = some fn) (hb : fn.body = some c) {args : List AV} {a : AV} {us : List Value} {u : Value} {s : St} (hargs : ∀ ρ vs, RVs ρ args vs → vs = us) (ha : ∀ ρ, RV ρ a u)
    (hc : ∀ w, Calls P f us.toArray w fun e w' => e = .returned u ∧ w' = w) : Snd P G f args s [.val a s] := by
  intro base ρ w vs rv rm
  have := hargs ρ vs rv
  subst this
  rw [callFunc_enter hn hf hb]
  refine Calls.mono (hc w) ?_
  rintro x w' ⟨rfl, rfl⟩
  exact ⟨ρ, .inl ⟨a, s, u, List.mem_singleton.2 rfl, rfl, ha ρ, Adv.refl rm.rh rm.hi⟩⟩
end Go.Ai
