/- A part of the proof of the law ReplayRings. CONDITIONS: those that each theorem names. -/
import Derived.Test.YtpgkhpfogjclhaaGreatDoorRDraw
import Derived.Test.YtpgkhpfogjclhaaGreatDoorGLaw
/-! Rows of single cells; what a drawn region asks of its numbers. -/
namespace Go.Ai
open Go
variable {P : Program} {G : Glob}
noncomputable def aRow (xs : List AV) : AB := mkRow xs 1
theorem rd_a {xs : List AV} {j : Nat} {v : AV} (h : xs[j]? = some v) : rdAB (some (aRow xs)) (j * 1) 1 = some [v] := by
  have hj := (List.getElem?_eq_some_iff.1 h).1
  rw [aRow, rdAB_row, if_pos (by omega), Nat.mul_one]
  rw [List.getElem?_eq_getElem hj] at h
  rw [List.drop_eq_getElem_cons hj, Option.some.inj h]
  rfl
theorem wr_a {h : Heap} {id : Nat} {xs : List AV} {j : Nat} {v : AV} (hj : j < xs.length) (hc : isCell v = true) : wrAB h id (some (aRow xs)) (j * 1) [v] = some (hset h id (aRow (xs.set j v))) := by
  rw [aRow, wrAB_row, if_pos ⟨by simp only [List.length_cons, List.length_nil]; omega, by simp [allCell, hc]⟩, Nat.mul_one]
  simp only [ovr]
  rfl
theorem repl_one (x : AV) (n : Nat) : repl [x] n = List.replicate n x := by
  induction n with
  | zero => rfl
  | succ n ih => rw [repl, ih]; rfl
theorem nMS_a {e : TypeId} {by' key n : Nat} {z : AV} (hs : sizeT P e = some 1) (hb : bytesT P e = some by') (hz : zeroT P e = some z) (hzc : z.cells = [z]) (hn : by' * n ≤ 1073741824) (hn2 : n ≤ 1073741824) :
    nMS P key (some (.slice e)) (some (.int .i64 (n : Int))) (some (.int .i64 (n : Int))) = some (.slice key 0 0 n (some n), aRow (List.replicate n z)) := by
  have e1 : Nat.ble n n = true := Nat.ble_eq_true_of_le (Nat.le_refl _)
  have e2 : Nat.ble (by' * n) 1073741824 = true := Nat.ble_eq_true_of_le hn
  have e3 : Nat.ble n 1073741824 = true := Nat.ble_eq_true_of_le hn2
  have e4 : Nat.blt 0 1 = true := rfl
  have e5 : Nat.beq 1 1 = true := rfl
  simp only [nMS, nMS1, nMS2, natOf_c, hs, hb, hz, hzc, e1, e2, e3, e4, List.length_cons, List.length_nil, Nat.zero_add, e5, Bool.and_self, rowOf_mk, repl_one]
  rfl
/-! ### drawn regions -/
theorem addMade_nil (b : Nat) (h : Heap) : addMade b h [] = h := rfl
noncomputable def mad1 (t : Bool) (o : Option AB) (x y : Heap) : Heap := match t with
  | true => match o with
    | none => x
    | some _ => y
  | false => y
theorem addMade_cons (b : Nat) (h : Heap) (j k : Nat) (blk : AB) (r : Made) : addMade b h ((j, k, blk) :: r) = mad1 (b.testBit j) (hget h k) (addMade b (hset h k blk) r) (addMade b h r) := by
  simp only [addMade, hsetC_eq]
  cases b.testBit j with
  | false => rfl
  | true => cases hget h k <;> rfl
theorem mad1_t (x y : Heap) : mad1 true none x y = x := rfl
theorem mad1_o (a : AB) (x y : Heap) : mad1 true (some a) x y = y := rfl
theorem mad1_f (o : Option AB) (x y : Heap) : mad1 false o x y = y := rfl
theorem addAll_nil (h : Heap) : addAll h [] = h := rfl
theorem addAll_cons (h : Heap) (j k : Nat) (blk : AB) (r : Made) : addAll h ((j, k, blk) :: r) = mad1 true (hget h k) (addAll (hset h k blk) r) (addAll h r) := by
  simp only [addAll, hsetC_eq]
  cases hget h k <;> rfl
theorem readsLeft_nil (b : Nat) : readsLeft b [] = [] := rfl
noncomputable def rdl1 (t : Bool) (x : Nat × Op × AV) (r : List (Nat × Op × AV)) : List (Nat × Op × AV) := match t with
  | true => r
  | false => x :: r
theorem readsLeft_cons (b r b' : Nat) (op : Op) (v : AV) (rest : Rds) : readsLeft b ((r, b', op, v) :: rest) = rdl1 (b.testBit r) (b', op, v) (readsLeft b rest) := by
  simp only [readsLeft]
  cases b.testBit r <;> rfl
theorem rdl1_t (x : Nat × Op × AV) (r : List (Nat × Op × AV)) : rdl1 true x r = r := rfl
theorem rdl1_f (x : Nat × Op × AV) (r : List (Nat × Op × AV)) : rdl1 false x r = x :: r := rfl
theorem readsOk_nil (fr : Fr) (h : Heap) (M : Made) : readsOk P G fr h M [] = true := rfl
noncomputable def rok1 (o : Option AV) (v : AV) (r : Bool) : Bool := match o with
  | some u => avEq u v && r
  | none => false
theorem readsOk_cons (fr : Fr) (h : Heap) (M : Made) (b : Nat) (op : Op) (v : AV) (rest : List (Nat × Op × AV)) : readsOk P G fr h M ((b, op, v) :: rest) = rok1 (readOp P G fr (addMade b h M) op) v (readsOk P G fr h M rest) := by
  simp only [readsOk, rok1]
  cases readOp P G fr (addMade b h M) op with
  | none => rfl
  | some u => simp only; cases avEq u v <;> rfl
theorem rok1_s (u v : AV) (r : Bool) : rok1 (some u) v r = (avEq u v && r) := rfl
theorem asideOk_nil (h h' : Heap) : asideOk h h' [] = true := rfl
noncomputable def asd1 (a b : Option AB) (r : Bool) : Bool := match a, b with
  | none, none => r
  | some _, some _ => r
  | _, _ => false
theorem asideOk_cons (h h' : Heap) (j k : Nat) (blk : AB) (r : Made) : asideOk h h' ((j, k, blk) :: r) = asd1 (hget h k) (hget h' k) (asideOk h h' r) := by
  simp only [asideOk, asd1]
  cases hget h k <;> cases hget h' k <;> rfl
theorem asd1_n (r : Bool) : asd1 none none r = r := rfl
theorem asd1_s (a b : AB) (r : Bool) : asd1 (some a) (some b) r = r := rfl
/-! ### edges -/
def ksE : List CK := [.i .i64, .i .i64]
def edgeOf : List AV → Int × Int
  | [.int _ a, .int _ b] => (a, b)
  | _ => (0, 0)
def edgesL (L : List (List AV)) : List (Int × Int) := L.map edgeOf
theorem cks_E {l : List AV} (h : cksOk ksE l) : ∃ a b, l = [.int .i64 a, .int .i64 b] := by
  obtain ⟨a, r, rfl, ha, b, r2, rfl, hb, hr⟩ := h
  simp only [cksOk] at hr
  subst hr
  cases a <;> simp only [ckOk] at ha <;> try exact ha.elim
  cases b <;> simp only [ckOk] at hb <;> try exact hb.elim
  obtain ⟨rfl, _⟩ := ha
  obtain ⟨rfl, _⟩ := hb
  exact ⟨_, _, rfl⟩
theorem edge_at {A B : Nat} {h : Heap} {a : AV} {L : List (List AV)} (hl : LstI A B h ksE a L) {i : Nat} (hi : i < L.length) : ∃ b o eo cap x y, a = .slice b o eo L.length cap ∧ ky A 0 ≤ b ∧ b < ky B 0 ∧ (edgesL L)[i]? = some (x, y) ∧
    rdAB (hget h b) (o + i * 2) 2 = some [.int .i64 x, .int .i64 y] ∧ rdAB (hget h b) (o + i * 2) 1 = some [.int .i64 x] ∧ rdAB (hget h b) (o + i * 2 + 1) 1 = some [.int .i64 y] := by
  obtain ⟨b, o, eo, cap, e, h1, h2, h0, hp⟩ := hl.at hi
  obtain ⟨x, y, el⟩ := cks_E (hl.1.ok hi)
  have g1 := hp 0 1 (by decide)
  have g2 := hp 1 1 (by decide)
  rw [el] at h0 g1 g2
  refine ⟨b, o, eo, cap, x, y, e, h1, h2, ?_, h0, g1, g2⟩
  rw [edgesL, List.getElem?_map, List.getElem?_eq_getElem hi, el]
  rfl
theorem edgesL_len (L : List (List AV)) : (edgesL L).length = L.length := by simp [edgesL]
/-! ### lists of lists between two frames -/
def Lst2I (A B : Nat) (h : Heap) (ks : List CK) (a : AV) (LL : List (List (List AV))) : Prop :=
  ∃ X : List (List AV), LstI A B h [.l] a X ∧ X.length = LL.length ∧ ∀ (i : Nat) (l : List (List AV)), LL[i]? = some l → ∃ x, X[i]? = some [x] ∧ LstI A B h ks x l
section
variable {A B : Nat} {h h1 : Heap} {ks : List CK} {a : AV} {LL : List (List (List AV))}
theorem Lst2I.move (hl : Lst2I A B h ks a LL) (he : EqI A B h h1) : Lst2I A B h1 ks a LL := by
  obtain ⟨X, k1, k2, k3⟩ := hl
  exact ⟨X, k1.move he, k2, fun i l hi => let ⟨x, e, hx⟩ := k3 i l hi; ⟨x, e, hx.move he⟩⟩
theorem rLen1_I2 {t e : TypeId} {h2 : Heap} (hu : P.underlying t = some (.slice e)) (hl : Lst2I A B h ks a LL) : rLen1 P h2 t (some a) = some (.int .i64 (LL.length : Int)) := by
  obtain ⟨X, h1, h2, _⟩ := hl
  rw [rLen1_L hu h1.1, h2]
theorem Lst2I.at (hl : Lst2I A B h ks a LL) {i : Nat} {l : List (List AV)} (hi : LL[i]? = some l) : ∃ b o eo cap x, a = .slice b o eo LL.length cap ∧ ky A 0 ≤ b ∧ b < ky B 0 ∧ rdAB (hget h b) (o + i * 1) 1 = some [x] ∧ LstI A B h ks x l := by
  obtain ⟨X, k1, k2, k3⟩ := hl
  obtain ⟨x, e, hx⟩ := k3 i l hi
  have hil := (List.getElem?_eq_some_iff.1 e).1
  obtain ⟨b, o, eo, cap, e1, g1, g2, h0, _⟩ := k1.at hil
  rw [List.getElem?_eq_getElem hil] at e
  rw [Option.some.inj e] at h0
  exact ⟨b, o, eo, cap, x, by rw [e1, k2], g1, g2, h0, hx⟩
end
end Go.Ai
