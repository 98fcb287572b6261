/- A part of the proof of the law ReplayRings. CONDITIONS: those that each theorem names. -/
import Derived.Test.YtpgkhpfogjclhaaGreatDoorRows1
/-! A row of lists that grow. -/
namespace Go.Ai
open Go
variable {P : Program}
def GR (h : Heap) (F lc kg : Nat) (G : List (List Int)) (xs : List AV) : Prop :=
  hget h (ky F kg) = some (aRow xs) ∧ xs.length = G.length ∧ kg < lc ∧ ∃ pos : Nat → Nat,
    (∀ (i j : Nat) (g g' : List Int), G[i]? = some g → G[j]? = some g' → 0 < g.length → 0 < g'.length → pos i = pos j → i = j) ∧
    ∀ (i : Nat) (g : List Int), G[i]? = some g → (g = [] ∧ xs[i]? = some .nils) ∨ (0 < g.length ∧ xs[i]? = some (.slice (ky F (pos i)) 0 0 g.length none) ∧ hget h (ky F (pos i)) = some (mkRow (ints g) 1) ∧ kg < pos i ∧ pos i < lc)
section
variable {h h' : Heap} {F lc lc' kg u : Nat} {G : List (List Int)} {xs : List AV} {g : List Int} {xu : AV}
theorem GR.row (t : GR h F lc kg G xs) : hget h (ky F kg) = some (aRow xs) := t.1
theorem GR.len (t : GR h F lc kg G xs) : xs.length = G.length := t.2.1
theorem GR.up (t : GR h F lc kg G xs) (hl : lc ≤ lc') : GR h F lc' kg G xs := by
  obtain ⟨h1, h2, h3, pos, h4, h5⟩ := t
  refine ⟨h1, h2, by omega, pos, h4, fun i g hi => ?_⟩
  rcases h5 i g hi with c | ⟨c1, c2, c3, c4, c5⟩
  · exact .inl c
  · exact .inr ⟨c1, c2, c3, c4, by omega⟩
theorem GR.move (t : GR h F lc kg G xs) (he : ∀ c, c < lc → hget h' (ky F c) = hget h (ky F c)) : GR h' F lc kg G xs := by
  obtain ⟨h1, h2, h3, pos, h4, h5⟩ := t
  refine ⟨by rw [he _ h3]; exact h1, h2, h3, pos, h4, fun i g hi => ?_⟩
  rcases h5 i g hi with c | ⟨c1, c2, c3, c4, c5⟩
  · exact .inl c
  · exact .inr ⟨c1, c2, by rw [he _ c5]; exact c3, c4, c5⟩
theorem GR.set {k : Nat} {b : AB} (t : GR h F lc kg G xs) (hk : lc ≤ k) : GR (hset h (ky F k) b) F lc kg G xs :=
  t.move fun c hc => by rw [hget_hset, if_neg (by rw [ky_inj]; omega)]
theorem GR.il (t : GR h F lc kg G xs) (hg : G[u]? = some g) (hx : xs[u]? = some xu) : IL h F lc xu g := by
  obtain ⟨h1, h2, h3, pos, h4, h5⟩ := t
  rcases h5 u g hg with ⟨c1, c2⟩ | ⟨c1, c2, c3, c4, c5⟩
  · rw [hx] at c2; exact .inl ⟨Option.some.inj c2, c1⟩
  · rw [hx] at c2
    exact .inr ⟨c1, pos u, c5, Option.some.inj c2, c3⟩
theorem GR.kill_get {k : Nat} {h2 : Heap} (t : GR h F lc kg G xs) (hg : G[u]? = some g) (hx : xs[u]? = some xu) (hk : lc ≤ k ∨ k = kg) : hget (kill h2 xu) (ky F k) = hget h2 (ky F k) := by
  obtain ⟨_, _, h3, pos, h4, h5⟩ := t
  rcases h5 u g hg with ⟨c1, c2⟩ | ⟨c1, c2, c3, c4, c5⟩
  · rw [hx] at c2; rw [Option.some.inj c2]; rfl
  · rw [hx] at c2
    rw [Option.some.inj c2]
    simp only [kill]
    rw [hget_hset, if_neg (by rw [ky_inj]; omega)]
theorem GR.at (t : GR h F lc kg G xs) (hg : G[u]? = some g) : ∃ xu, xs[u]? = some xu := by
  have := (List.getElem?_eq_some_iff.1 hg).1
  exact ⟨xs[u]'(by rw [t.2.1]; exact this), by simp⟩
theorem GR.new (n : Nat) (hg : hget h (ky F kg) = some (aRow (List.replicate n .nils))) (hk : kg < lc) : GR h F lc kg (List.replicate n []) (List.replicate n .nils) := by
  refine ⟨hg, by simp, hk, fun _ => 0, ?_, ?_⟩
  · intro i j g g' h1 _ h3 _ _
    rw [List.getElem?_replicate] at h1
    split at h1
    · cases h1; simp at h3
    · cases h1
  · intro i g hi
    rw [List.getElem?_replicate] at hi
    split at hi
    · rename_i hlt
      cases hi
      exact .inl ⟨rfl, by rw [List.getElem?_replicate, if_pos hlt]⟩
    · cases hi
/-- one list grows -/
theorem GR.grow {k : Nat} {y : Int} (t : GR h F lc kg G xs) (hg : G[u]? = some g) (hx : xs[u]? = some xu) (hk : lc ≤ k) (he : ∀ c, c < lc → hget h' (ky F c) = hget h (ky F c)) :
    GR (hset (hset (kill h' xu) (ky F k) (mkRow (ints (g ++ [y])) 1)) (ky F kg) (aRow (xs.set u (.slice (ky F k) 0 0 (g ++ [y]).length none)))) F (k + 1) kg (G.set u (g ++ [y])) (xs.set u (.slice (ky F k) 0 0 (g ++ [y]).length none)) := by
  have hil := t.il hg hx
  obtain ⟨h1, h2, h3, pos, h4, h5⟩ := t
  have hu := (List.getElem?_eq_some_iff.1 hg).1
  have hux : u < xs.length := by omega
  refine ⟨by rw [hget_hset, if_pos rfl], by simp [h2], by omega, fun i => if i = u then k else pos i, ?_, ?_⟩
  · intro i j gi gj hi hj hpi hpj hpp
    by_cases e1 : i = u
    · by_cases e2 : j = u
      · rw [e1, e2]
      · exfalso
        simp only [e1, if_true, e2, if_false] at hpp
        rw [List.getElem?_set_ne (fun e => e2 e.symm)] at hj
        rcases h5 j gj hj with ⟨c1, _⟩ | ⟨_, _, _, _, c5⟩
        · rw [c1] at hpj; simp at hpj
        · omega
    · rw [List.getElem?_set_ne (fun e => e1 e.symm)] at hi
      by_cases e2 : j = u
      · exfalso
        simp only [e2, if_true, e1, if_false] at hpp
        rcases h5 i gi hi with ⟨c1, _⟩ | ⟨_, _, _, _, c5⟩
        · rw [c1] at hpi; simp at hpi
        · omega
      · rw [List.getElem?_set_ne (fun e => e2 e.symm)] at hj
        simp only [e1, e2, if_false] at hpp
        exact h4 i j gi gj hi hj hpi hpj hpp
  · intro i gi hi
    by_cases e1 : i = u
    · subst e1
      rw [List.getElem?_set_self hu] at hi
      cases hi
      refine .inr ⟨by rw [List.length_append]; exact Nat.succ_pos _, ?_, ?_, ?_, ?_⟩
      · simp only [if_true]; rw [List.getElem?_set_self hux]
      · simp only [if_true]; rw [hget_hset, if_neg (by rw [ky_inj]; omega), hget_hset, if_pos rfl]
      · simp only [if_true]; omega
      · simp only [if_true]; omega
    · rw [List.getElem?_set_ne (fun e => e1 e.symm)] at hi
      rcases h5 i gi hi with ⟨c1, c2⟩ | ⟨c1, c2, c3, c4, c5⟩
      · exact .inl ⟨c1, by rw [List.getElem?_set_ne (fun e => e1 e.symm)]; exact c2⟩
      · refine .inr ⟨c1, by simp only [e1, if_false]; rw [List.getElem?_set_ne (fun e => e1 e.symm)]; exact c2, ?_, by simp only [e1, if_false]; exact c4, by simp only [e1, if_false]; omega⟩
        simp only [e1, if_false]
        rw [hget_hset, if_neg (by rw [ky_inj]; omega), hget_hset, if_neg (by rw [ky_inj]; omega)]
        rcases hil with ⟨rfl, _⟩ | ⟨hp, c, hc, rfl, hgc⟩
        · simp only [kill]; rw [he _ c5]; exact c3
        · have hne : pos i ≠ c := by
            intro e
            rcases h5 u g hg with ⟨d1, _⟩ | ⟨d1, d2, _, _, _⟩
            · rw [d1] at hp; simp at hp
            · rw [hx] at d2
              have e4 := Option.some.inj d2
              injection e4 with e5
              rw [ky_inj] at e5
              exact e1 (h4 i u gi g hi hg c1 d1 (by omega))
          simp only [kill]
          rw [hget_hset, if_neg (by rw [ky_inj]; exact hne), he _ c5]; exact c3
/-- the lists as they are read -/
theorem GR.lst (t : GR h F lc kg G xs) (hlc : lc ≤ 1267650600228229401496703205376) (hr : ∀ g ∈ G, g.length ≤ 1000000 ∧ ∀ z ∈ g, 0 ≤ z ∧ z < 1000000) (hm : G.length ≤ 1000000) : Lst2I F (F + 1) h ksN (.slice (ky F kg) 0 0 G.length (some G.length)) (G.map iL) := by
  have mxl : maxLen = 9223372036854775807 := by decide
  obtain ⟨h1, h2, h3, pos, h4, h5⟩ := t
  have hin : ∀ c, c < lc → ky F 0 ≤ ky F c ∧ ky F c < ky (F + 1) 0 := fun c hc => ⟨ky_le F c, ky_next F c (by omega)⟩
  have cell : ∀ l ∈ xs.map (fun x => [x]), cksOk [.l] l := by
    intro l hl
    obtain ⟨x, hx, rfl⟩ := List.mem_map.1 hl
    obtain ⟨i, hi⟩ := List.getElem?_of_mem hx
    have hil := (List.getElem?_eq_some_iff.1 hi).1
    refine ⟨x, [], rfl, ?_, rfl⟩
    rcases h5 i (G[i]'(by omega)) (by simp) with ⟨_, c2⟩ | ⟨_, c2, _⟩
    · rw [hi] at c2; rw [Option.some.inj c2]; exact trivial
    · rw [hi] at c2; rw [Option.some.inj c2]; exact trivial
  have flat : (xs.map fun x => [x]).flatten = xs := by
    clear h2 cell h5 h1
    induction xs with
    | nil => rfl
    | cons x xs ih => simp [ih]
  refine ⟨xs.map fun x => [x], ⟨⟨cell, by rw [List.length_map]; omega, .inr ⟨_, 0, 0, _, by rw [List.length_map, h2], fun _ => ?_⟩⟩, ?_⟩, by simp [h2], ?_⟩
  · rw [h1, aRow, rdAB_row, flat, List.length_map]
    simp only [List.length_cons, List.length_nil, Nat.zero_add, Nat.mul_one]
    rw [if_pos (Nat.le_refl _), List.drop_zero, List.take_length]
  · intro b o eo n cap e _
    cases e
    exact hin kg h3
  · intro i l hi
    rw [List.getElem?_map] at hi
    obtain ⟨g, hg, rfl⟩ := Option.map_eq_some_iff.1 hi
    obtain ⟨hr1, hr2⟩ := hr g (List.mem_of_getElem? hg)
    have hok : ∀ l ∈ iL g, cksOk ksN l := fun l hl => by
      obtain ⟨z, hz, rfl⟩ := List.mem_map.1 hl
      have hz1 := hr2 z hz
      refine ⟨_, _, rfl, ⟨rfl, ?_, ?_⟩, rfl⟩
      · show -(2 ^ (64 - 1) : Int) ≤ z; omega
      · show z ≤ (2 ^ (64 - 1) : Int) - 1; omega
    rcases h5 i g hg with ⟨rfl, c2⟩ | ⟨c1, c2, c3, c4, c5⟩
    · refine ⟨.nils, by rw [List.getElem?_map, c2]; rfl, ⟨hok, by simp [iL], .inl ⟨.inl rfl, rfl⟩⟩, fun b o eo n cap e => by cases e⟩
    · refine ⟨_, by rw [List.getElem?_map, c2]; rfl, ⟨hok, by rw [iL_len]; omega, .inr ⟨_, 0, 0, none, by rw [iL_len], fun _ => ?_⟩⟩, fun b o eo n cap e _ => by cases e; exact hin _ c5⟩
      rw [c3, rdAB_row, iL_len, iL_flat, if_pos (by rw [ints_len]; simp), List.drop_zero, List.take_of_length_le (by rw [ints_len]; simp)]
end
end Go.Ai
namespace Go.Ai
open Go
variable {P : Program}
/-- what a stretch leaves as it was: all below the frame, the frame's own blocks up to a place, the frames from A on, below B -/
def Ev (F lc0 A B : Nat) (h1 h2 : Heap) : Prop := Low F h1 h2 ∧ (∀ c, c < lc0 → hget h2 (ky F c) = hget h1 (ky F c)) ∧ EqI A B h1 h2
section
variable {F lc0 A B c : Nat} {h1 h2 h3 : Heap} {b : AB}
theorem Ev.refl (F lc0 A B : Nat) (h : Heap) : Ev F lc0 A B h h := ⟨Low.refl F h, fun _ _ => rfl, EqI.refl A B h⟩
theorem Ev.low (e : Ev F lc0 A B h1 h2) : Low F h1 h2 := e.1
theorem Ev.own (e : Ev F lc0 A B h1 h2) (hc : c < lc0) : hget h2 (ky F c) = hget h1 (ky F c) := e.2.1 c hc
theorem Ev.eqI (e : Ev F lc0 A B h1 h2) : EqI A B h1 h2 := e.2.2
theorem Ev.set (e : Ev F lc0 A B h1 h2) (hc : lc0 ≤ c) (hk : c ≤ 1267650600228229401496703205375) (hf : F < A ∨ B ≤ F) : Ev F lc0 A B h1 (hset h2 (ky F c) b) :=
  ⟨e.1.set (Nat.le_refl F), fun d hd => by rw [hget_hset, if_neg (by rw [ky_inj]; omega)]; exact e.2.1 d hd, e.2.2.set hf hk⟩
theorem Ev.set2 {G : Nat} (e : Ev F lc0 A B h1 h2) (hg : F < G) (hb : B ≤ G) (hk : c ≤ 1267650600228229401496703205375) (hl : lc0 ≤ 1267650600228229401496703205375) : Ev F lc0 A B h1 (hset h2 (ky G c) b) := by
  refine ⟨e.1.set (by omega), fun d hd => ?_, e.2.2.set (.inr hb) hk⟩
  rw [hget_hset, if_neg]
  · exact e.2.1 d hd
  · intro q
    have h4 := ky_next F d (by omega)
    have h5 : ky (F + 1) 0 ≤ ky G 0 := ky_mono hg
    have h6 := ky_le G c
    omega
theorem Ev.call {G : Nat} (e : Ev F lc0 A B h1 h2) (hl : Low G h2 h3) (hg : F < G) (hb : B ≤ G) (hk : lc0 ≤ 1267650600228229401496703205375) : Ev F lc0 A B h1 h3 :=
  ⟨e.1.trans (hl.down (by omega)), fun d hd => by rw [hl.own hg (by omega)]; exact e.2.1 d hd, e.2.2.call hl hb⟩
end
theorem IL.moveF {F lc : Nat} {h h' : Heap} {l : AV} {zs : List Int} (hi : IL h F lc l zs) (he : ∀ c, c < lc → hget h' (ky F c) = hget h (ky F c)) : IL h' F lc l zs := by
  rcases hi with h1 | ⟨h1, c, h2, h3, h4⟩
  · exact .inl h1
  · exact .inr ⟨h1, c, h2, h3, by rw [he c h2]; exact h4⟩
/-- a list in one place: what is to be looked at yet -/
def LK (h : Heap) (F cs lc B : Nat) (l : AV) (ws : List Int) : Prop :=
  (ws = [] ∧ (l = .nils ∨ l = .hole)) ∨ ∃ G c, ((G = F ∧ cs < c ∧ c < lc) ∨ (B ≤ G ∧ F < G ∧ c ≤ 1000000)) ∧ OwnL h G c 1 l (iL ws)
section
variable {F cs lc lc' B : Nat} {h h' : Heap} {l : AV} {ws : List Int}
theorem LK.up (t : LK h F cs lc B l ws) (hl : lc ≤ lc') : LK h F cs lc' B l ws := by
  rcases t with t | ⟨G, c, h1, h2⟩
  · exact .inl t
  · exact .inr ⟨G, c, by omega, h2⟩
theorem LK.len {t e : TypeId} {h2 : Heap} (hu : P.underlying t = some (.slice e)) (w : LK h F cs lc B l ws) : rLen1 P h2 t (some l) = some (.int .i64 (ws.length : Int)) := by
  rcases w with ⟨rfl, rfl | rfl⟩ | ⟨G, c, _, ho⟩
  · simp only [rLen1, lenA, hu]; rfl
  · simp only [rLen1, lenA, hu]; rfl
  · obtain ⟨pre, eo, cap, rfl, _⟩ := ho.cells
    rw [rLen1_sl]
    simp only [lenA, hu, iL_len]
/-- a write elsewhere -/
theorem LK.set {k : Nat} {b : AB} (t : LK h F cs lc B l ws) (hk : lc ≤ k ∨ k ≤ cs) (hb : k ≤ 1267650600228229401496703205375) : LK (hset h (ky F k) b) F cs lc B l ws := by
  rcases t with t | ⟨G, c, h1, h2⟩
  · exact .inl t
  · refine .inr ⟨G, c, h1, h2.move ?_⟩
    rw [hget_hset, if_neg]
    intro q
    rcases h1 with ⟨rfl, h3, h4⟩ | ⟨h3, h4, h5⟩
    · rw [ky_inj] at q; omega
    · have h6 := ky_next F k hb
      have h7 : ky (F + 1) 0 ≤ ky G 0 := ky_mono h4
      have h8 := ky_le G c
      omega
theorem LK.head {w : Int} (t : LK h F cs lc B l (w :: ws)) : ∃ b o eo cap, l = .slice b o eo (ws.length + 1) cap ∧ rdAB (hget h b) (o + 0 * 1) 1 = some [.int .i64 w] := by
  rcases t with ⟨h1, _⟩ | ⟨G, c, h1, h2⟩
  · cases h1
  · obtain ⟨o, eo, cap, e, hr⟩ := OwnL.head (x := [.int .i64 w]) (L := iL ws) h2 rfl
    rw [iL_len] at e
    exact ⟨_, o, eo, cap, e, hr⟩
theorem LK.tail {t e : TypeId} {w : Int} (hu : P.underlying t = some (.slice e)) (hs : sizeT P e = some 1) (q : LK h F cs lc B l (w :: ws)) : ∃ l', sliceA P t l (some (.int .i64 1)) none none = some l' ∧ LK h F cs lc B l' ws := by
  rcases q with ⟨h1, _⟩ | ⟨G, c, h1, h2⟩
  · cases h1
  · obtain ⟨l', e1, h3⟩ := OwnL.tail (x := [.int .i64 w]) (L := iL ws) hu hs h2
    exact ⟨l', e1, .inr ⟨G, c, h1, h3⟩⟩
end
end Go.Ai
namespace Go.Ai
open Go
variable {P : Program}
theorem iL_inj : ∀ {a b : List Int}, iL a = iL b → a = b
  | [], [], _ => rfl
  | [], b :: bs, h => by simp [iL] at h
  | a :: as, [], h => by simp [iL] at h
  | a :: as, b :: bs, h => by
    simp only [iL, List.map_cons, List.cons.injEq, AV.int.injEq, true_and, and_true] at h
    rw [h.1, iL_inj h.2]
theorem iL_app (a b : List Int) : iL (a ++ b) = iL a ++ iL b := by simp [iL]
theorem ints_cell : ∀ zs : List Int, allCell (ints zs) = true
  | [] => rfl
  | z :: zs => by
    have := ints_cell zs
    simp only [ints, List.map_cons, allCell, isCell] at this ⊢
    exact this
/-- those that are to be looked at grow by a list -/
theorem LK.app {t e by' F cs lc B k G c : Nat} {h : Heap} {l x : AV} {ws zk : List Int} (hu : P.underlying t = some (.slice e)) (hs : sizeT P e = some 1) (hb : bytesT P e = some by') (hz : zeroOk P e 1 by' = true) (hby : by' ≤ 1000)
    (hpos : (G = F ∧ cs < c ∧ c < lc) ∨ (B ≤ G ∧ F < G ∧ c ≤ 1000000)) (ho : OwnL h G c 1 l (iL ws)) (hx : LstP h ksN x (iL zk)) (hlen : ws.length + zk.length ≤ 100000) (hk : lc ≤ k) (hkk : k ≤ 1267650600228229401496703205375) (hcs : cs < lc) (hlc : lc ≤ 1267650600228229401496703205375) :
    ∃ l' h', (∀ f, appendA P t t (ky F k) ⟨h, f⟩ l x = some (l', ⟨h', f⟩)) ∧ LK h' F cs (k + 1) B l' (ws ++ zk) ∧ hget h' (ky F cs) = hget h (ky F cs) ∧ ∀ h0 lc0 A, lc0 ≤ cs + 1 → F < A → Ev F lc0 A B h0 h → Ev F lc0 A B h0 h' := by
  rcases Nat.eq_zero_or_pos zk.length with hz0 | hzp
  · have e := List.length_eq_zero_iff.1 hz0
    subst e
    obtain ⟨pre, eo, cap, rfl, hr⟩ := ho.cells
    refine ⟨_, h, fun f => app_same (s := ⟨h, f⟩) hu hu hs hb hz (src_none (ks := ksN) hx) (by rw [iL_len]; simpa using hlen) hby, ?_, rfl, fun _ _ _ _ _ ev => ev⟩
    rw [List.append_nil]
    exact .inr ⟨G, c, by omega, ho⟩
  · have hsrc : ∀ f, srcCells (St.mk h f).h 1 x = some ((iL zk).length, (iL zk).flatten) := fun f => src_L (ks := ksN) hx (by rw [iL_len]; exact hzp)
    have hne : ky F cs ≠ ky G c := by
      rcases hpos with ⟨rfl, h3, h4⟩ | ⟨h3, h4, h5⟩
      · rw [ne_eq, ky_inj]; omega
      · have h6 := ky_next F cs (by omega)
        have h7 : ky (F + 1) 0 ≤ ky G 0 := ky_mono h4
        have h8 := ky_le G c
        omega
    refine ⟨.slice (ky F k) 0 0 (iL ws ++ iL zk).length none, hset (killQ h l) (ky F k) (mkRow (iL ws ++ iL zk).flatten 1), fun f => app_own (s := ⟨h, f⟩) hu hu hs hb hz ho (hsrc f) (by rw [iL_len]; exact hzp) (by omega) (iL_one zk) (by rw [iL_flat]; exact ints_cell zk) (by rw [iL_len, iL_len]; exact hlen) hby, ?_, ?_, ?_⟩
    · rw [← iL_app]
      exact .inr ⟨F, k, .inl ⟨rfl, by omega, by omega⟩, OwnL.new (iL_one _) (by rw [hget_hset, if_pos rfl]) (.inl rfl)⟩
    · rw [hget_hset, if_neg (by rw [ky_inj]; omega), killQ_get ho hne]
    · intro h0 lc0 A h1 h2 ev
      refine Ev.set ?_ (by omega) hkk (.inl h2)
      obtain ⟨pre, _, _, h3⟩ := ho
      rcases h3 with rfl | ⟨eo, rfl⟩
      · simp only [killQ]
        rcases hpos with ⟨rfl, h4, h5⟩ | ⟨h4, h5, h6⟩
        · exact ev.set (by omega) (by omega) (.inl h2)
        · exact ev.set2 h5 h4 (by omega) (by omega)
      · exact ev
end Go.Ai
namespace Go.Ai
open Go
theorem EqI.kill {A B F lc : Nat} {h h' h2 : Heap} {l : AV} {zs : List Int} (he : EqI A B h h') (hi : IL h2 F lc l zs) (hf : F < A ∨ B ≤ F) (hk : lc ≤ 1267650600228229401496703205376) : EqI A B h (Ai.kill h' l) := by
  rcases hi with ⟨rfl, _⟩ | ⟨_, c, hc, rfl, _⟩
  · exact he
  · exact he.set hf (by omega)
noncomputable def ringsUp (n : Nat) (E : List (Int × Int)) (i : Nat) : List Int := ((List.range i).filter fun j => dec (Pa (Ed n E) j j)).map Int.ofNat
theorem ringsUp_zero (n : Nat) (E : List (Int × Int)) : ringsUp n E 0 = [] := rfl
theorem ringsUp_all (n : Nat) (E : List (Int × Int)) : ringsUp n E n = ringsL n E := rfl
theorem ringsUp_len (n : Nat) (E : List (Int × Int)) (i : Nat) : (ringsUp n E i).length ≤ i := by
  unfold ringsUp
  rw [List.length_map]
  exact Nat.le_trans (List.length_filter_le _ _) (by simp)
theorem ringsUp_hit {n : Nat} {E : List (Int × Int)} {i : Nat} (h : Pa (Ed n E) i i) : ringsUp n E (i + 1) = ringsUp n E i ++ [(i : Int)] := by
  unfold ringsUp
  rw [List.range_succ, List.filter_append, List.map_append]
  simp [dec_t h]
theorem ringsUp_miss {n : Nat} {E : List (Int × Int)} {i : Nat} (h : ¬ Pa (Ed n E) i i) : ringsUp n E (i + 1) = ringsUp n E i := by
  unfold ringsUp
  rw [List.range_succ, List.filter_append, List.map_append]
  simp [dec_f h]
theorem ringsUp_in {n : Nat} {E : List (Int × Int)} {i : Nat} : ∀ z ∈ ringsUp n E i, 0 ≤ z ∧ z < i := by
  intro z hz
  obtain ⟨j, hj, rfl⟩ := List.mem_map.1 hz
  have := List.mem_range.1 (List.mem_filter.1 hj).1
  exact ⟨Int.natCast_nonneg j, Int.ofNat_lt.2 this⟩
theorem il_lstI {h : Heap} {F lc : Nat} {l : AV} {zs : List Int} (hi : IL h F lc l zs) (hr : ∀ z ∈ zs, 0 ≤ z ∧ z < 1000000) (hm : zs.length ≤ 1000000) (hl : lc ≤ 1267650600228229401496703205376) : LstI F (F + 1) h ksN l (iL zs) := by
  have mxl : maxLen = 9223372036854775807 := by decide
  have hok : ∀ l ∈ iL zs, cksOk ksN l := fun l hl => by
    obtain ⟨z, hz, rfl⟩ := List.mem_map.1 hl
    have h1 := hr z hz
    refine ⟨_, _, rfl, ⟨rfl, ?_, ?_⟩, rfl⟩
    · show -(2 ^ (64 - 1) : Int) ≤ z; omega
    · show z ≤ (2 ^ (64 - 1) : Int) - 1; omega
  rcases hi with ⟨rfl, rfl⟩ | ⟨hp, c, hc, rfl, hg⟩
  · exact ⟨⟨hok, by rw [iL_len]; omega, .inl ⟨.inl rfl, rfl⟩⟩, fun b o eo n cap e => by cases e⟩
  · refine ⟨⟨hok, by rw [iL_len]; omega, .inr ⟨_, 0, 0, none, by rw [iL_len], fun _ => ?_⟩⟩, fun b o eo n cap e _ => by cases e; exact ⟨ky_le F c, ky_next F c (by omega)⟩⟩
    rw [hg, rdAB_row, iL_len, iL_flat, if_pos (by rw [ints_len]; simp), List.drop_zero, List.take_of_length_le (by rw [ints_len]; simp)]
end Go.Ai
