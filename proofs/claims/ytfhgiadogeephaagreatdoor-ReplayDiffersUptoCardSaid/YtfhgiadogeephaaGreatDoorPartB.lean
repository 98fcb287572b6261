/- A part of the proof of the law ReplayDiffers. CONDITIONS: those that each theorem names. -/
import Derived.Lib.ItoaNum
import Derived.Lib.Join
import Derived.Deep.Draws
import Derived.Lib.LaidTab
import Derived.Test.YtfhgiadogeephaaGreatDoorEngineA
import Derived.Test.YtfhgiadogeephaaGreatDoorEngineB
import Derived.Test.YtfhgiadogeephaaGreatDoorEngineC
import Derived.Test.YtfhgiadogeephaaGreatDoorEngineD
import Derived.Test.YtfhgiadogeephaaGreatDoorPartA
import Derived.Test.YtfhgiadogeephaaGreatDoorSTTypes
/-! One table for a whole claim: pure calls by what they answer (kc_hit: the contract is proof enough), others by what is said of them. -/
namespace Go.Ai
open Go
variable {P : Program} {G : Glob} {K : CallF} {m : Nat} {Q : Ex → Fr → St → Prop} {sp : FuncId → List AV → St → Option AV} {S : FuncId → List AV → St → Out → Prop}
noncomputable def KCf (P : Program) (G : Glob) (sp : FuncId → List AV → St → Option AV) (S : FuncId → List AV → St → Out → Prop) : FuncId → List AV → St → Outs := fun f args s =>
  match sp f args s with
  | some v => open Classical in if Snd P G f args s [.val v s] then some [.val v s] else none
  | none => KUf P G S f args s
noncomputable def KC (P : Program) (G : Glob) (sp : FuncId → List AV → St → Option AV) (S : FuncId → List AV → St → Out → Prop) : CallF := ⟨KCf P G sp S, fun _ _ _ => none⟩
theorem kc_fn (f : FuncId) (args : List AV) (s : St) : CallF.fn (KC P G sp S) f args s = KCf P G sp S f args s := rfl
theorem kc_ok : KOK P G (KC P G sp S) := KOK.table fun f args s outs h => by
  unfold KCf at h
  split at h
  · split at h
    · rename_i hs; cases h; exact hs
    · cases h
  · exact ku_ok.fn _ _ _ _ h
theorem kc_hit {f : FuncId} {args : List AV} {s : St} {v : AV} (hs : sp f args s = some v) (h : Snd P G f args s [.val v s]) : CallF.fn (KC P G sp S) f args s = some [.val v s] := by
  rw [kc_fn]; unfold KCf; rw [hs]; exact if_pos h
theorem kc_miss {f : FuncId} {args : List AV} {s : St} (hs : sp f args s = none) : CallF.fn (KC P G sp S) f args s = KUf P G S f args s := by
  rw [kc_fn]; unfold KCf; rw [hs]
section
variable {l : List Oper} {ops : Array Oper} {i : Nat} {fr fr' : Fr} {s s' : St} {o : Oper} {rest : List Oper} {j : Nat} {js : List Nat} {f : FuncId} {args : List AV} {R : Out → Prop}
/-- a call of which something is said, whatever the table -/
theorem r_callC (hw : wantedA fr ops o = true) (hc : callOuts P K fr i s o.op = KUf P G S f args s) (hs : SndQ P G f args s (S f args s))
    (hk : ∀ x, S f args s x → backQ fr o.dst (fun fr' s' => WR (textOps P G K ops rest (i + 1) fr' s') Q) x) : WR (textOps P G K ops (o :: rest) i fr s) Q := by
  obtain ⟨outs, e, hq⟩ := ku_hit hs
  rw [e] at hc
  have : WR (oneOp P G K o.dst o.op i fr s (textOps P G K ops rest (i + 1))) Q := by
    rw [callOuts_one hc]
    refine wr_outs (dst := o.dst) (k := fun fr' s' => WR (textOps P G K ops rest (i + 1) fr' s') Q) ?_ fun x hx => hk x (hq x hx)
    intro v s fr' hp hk
    rw [hp]; exact hk
  obtain ⟨dst, op, ty, pos, after, g⟩ := o
  rw [textOps, hw]
  exact this
end
theorem ic_i (k : IntKind) (n : Int) : isCell (.int k n) = true := rfl
theorem ic_s (l : List UInt8) : isCell (.str l) = true := rfl
end Go.Ai

/-! What texts of values and results say, in plain lists of bytes. -/
namespace Go.Ai
open Go
theorem dec_big {u : Nat} (h : ¬ u < 10) : Lib.decDigits u = Lib.decDigits (u / 10) ++ [UInt8.ofNat (48 + u % 10)] := by rw [Lib.decDigits, dif_neg h]
theorem dec_small {u : Nat} (h : u < 10) : Lib.decDigits u = [UInt8.ofNat (48 + u)] := by rw [Lib.decDigits, dif_pos h]
/-- the loop of the reference's digits: what is left, what is written -/
def digI (N n : Nat) (s : List UInt8) : Prop := ∃ r, Lib.decDigits N = Lib.decDigits n ++ r ∧ s = UInt8.ofNat (48 + n % 10) :: r
theorem digI.init (N : Nat) : digI N N [UInt8.ofNat (48 + N % 10)] := ⟨[], by simp, rfl⟩
theorem digI.step {N n : Nat} {s : List UInt8} (h : digI N n s) (hn : 10 ≤ n) : digI N (n / 10) (UInt8.ofNat (48 + n / 10 % 10) :: s) := by
  obtain ⟨r, h1, rfl⟩ := h
  exact ⟨_, by rw [h1, dec_big (by omega)]; simp, rfl⟩
theorem digI.done {N n : Nat} {s : List UInt8} (h : digI N n s) (hn : n < 10) : s = Lib.decDigits N := by
  obtain ⟨r, h1, rfl⟩ := h
  rw [h1, dec_small hn, Nat.mod_eq_of_lt hn]; rfl
theorem digI.len {N n : Nat} {s : List UInt8} (h : digI N n s) : s.length ≤ (Lib.decDigits N).length := by
  obtain ⟨r, h1, rfl⟩ := h
  have h2 := Lib.nDigits_pos n
  rw [h1, List.length_append, Lib.decDigits_length, List.length_cons]
  omega
/-- a text's bytes as a literal -/
def escB (c : UInt8) : List UInt8 := if c.toNat = 34 ∨ c.toNat = 92 then [92, c] else [c]
def escL (t : List UInt8) : List UInt8 := (t.map escB).flatten
theorem escL_app (a b : List UInt8) : escL (a ++ b) = escL a ++ escL b := by simp [escL]
theorem escL_len : ∀ t : List UInt8, (escL t).length ≤ 2 * t.length
  | [] => by simp [escL]
  | c :: t => by
    have := escL_len t
    have h1 : (escB c).length ≤ 2 := by unfold escB; split <;> simp
    simp only [escL, List.map_cons, List.flatten_cons, List.length_append, List.length_cons] at *
    omega
theorem escL_take {t : List UInt8} {i : Nat} {c : UInt8} (h : t[i]? = some c) : escL (t.take (i + 1)) = escL (t.take i) ++ escB c := by
  rw [List.take_add_one, h, escL_app]; simp [escL]
def litN : List UInt8 := [110, 111, 110, 101]
noncomputable def printV (k n : Int) (t : List UInt8) : List UInt8 := open Classical in if vOk k n t then (if k = 0 then litN else if k = 1 then Lib.itoa n else 34 :: (escL t ++ [34])) else []
theorem printV_bad {k n : Int} {t : List UInt8} (h : ¬ vOk k n t) : printV k n t = [] := by unfold printV; rw [if_neg h]
theorem printV_none {k n : Int} {t : List UInt8} (h : vOk k n t) (h0 : k = 0) : printV k n t = litN := by unfold printV; rw [if_pos h, if_pos h0]
theorem printV_int {k n : Int} {t : List UInt8} (h : vOk k n t) (h0 : k = 1) : printV k n t = Lib.itoa n := by unfold printV; rw [if_pos h, if_neg (by omega), if_pos h0]
theorem printV_text {k n : Int} {t : List UInt8} (h : vOk k n t) (h0 : ¬ k = 0) (h1 : ¬ k = 1) : printV k n t = 34 :: (escL t ++ [34]) := by unfold printV; rw [if_pos h, if_neg h0, if_neg h1]
theorem printV_len {k n : Int} {t : List UInt8} (h0 : -9223372036854775808 ≤ n) (h1 : n ≤ 9223372036854775807) (hl : (Lib.itoa n).length ≤ 21) : (printV k n t).length ≤ 130 := by
  unfold printV
  split
  · rename_i h
    split
    · decide
    · split
      · omega
      · have : t.length ≤ 64 := by rcases h with h | h | h <;> simp_all
        have := escL_len t
        simp only [List.length_cons, List.length_append, List.length_nil]; omega
  · simp
/-- the word of a result's kind -/
def wordL (k : Int) : List UInt8 := match k with
  | 0 => [110, 111, 110, 101]
  | 1 => [100, 111, 110, 101]
  | 2 => [97, 98, 111, 114, 116, 101, 100]
  | 3 => [102, 97, 117, 108, 116, 101, 100]
  | 4 => [115, 116, 97, 108, 101]
  | 5 => [102, 117, 108, 108]
  | 6 => [103, 117, 97, 114, 100]
  | _ => []
/-- a value's cells as a literal -/
noncomputable def printC : List AV → List UInt8
  | [.int _ k, .int _ n, .str t] => printV k n t
  | _ => []
/-- a result's cells and values as a text -/
noncomputable def headR (q k c p : Int) : List (List UInt8) := [Lib.itoa q, wordL k, Lib.itoa c, Lib.itoa p]
noncomputable def printR (q k c p : Int) (o : List (List AV)) : List UInt8 := Lib.join (headR q k c p ++ o.map printC) [32]
theorem join_snoc (x : List UInt8) (r : List (List UInt8)) (y sep : List UInt8) : Lib.join (x :: r ++ [y]) sep = Lib.join (x :: r) sep ++ (sep ++ y) := by
  rw [List.cons_append, Lib.join_cons, Lib.join_cons]
  simp [Lib.joinTail]
theorem printR_nil (q k c p : Int) : printR q k c p [] = Lib.itoa q ++ [32] ++ wordL k ++ [32] ++ Lib.itoa c ++ [32] ++ Lib.itoa p := by
  simp [printR, headR, Lib.join_cons, Lib.joinTail]
theorem printR_snoc (q k c p : Int) (o : List (List AV)) (x : List AV) : printR q k c p (o ++ [x]) = printR q k c p o ++ [32] ++ printC x := by
  unfold printR headR
  rw [List.map_append, ← List.append_assoc]
  simp only [List.cons_append, List.nil_append, List.map_cons, List.map_nil]
  have := join_snoc (Lib.itoa q) ([wordL k, Lib.itoa c, Lib.itoa p] ++ o.map printC) (printC x) [32]
  simp only [List.cons_append, List.nil_append] at this
  rw [this]
  simp
end Go.Ai

/-! Lists of structs of which one part is a list itself; results. -/
namespace Go.Ai
open Go
noncomputable def innerOf (h : Heap) (ks2 : List CK) (j : Nat) : List (List AV) → Option (List (List (List AV)))
  | [] => some []
  | x :: X => match (x[j]?).bind (lstOf h ks2), innerOf h ks2 j X with
    | some l, some Y => some (l :: Y)
    | _, _ => none
def RowN (h : Heap) (ks : List CK) (j : Nat) (ks2 : List CK) (a : AV) (X : List (List AV)) (Y : List (List (List AV))) : Prop := LstP h ks a X ∧ innerOf h ks2 j X = some Y
noncomputable def rowsOf (h : Heap) (ks : List CK) (j : Nat) (ks2 : List CK) (a : AV) : Option (List (List AV) × List (List (List AV))) :=
  match lstOf h ks a with
  | some X => match innerOf h ks2 j X with
    | some Y => some (X, Y)
    | none => none
  | none => none
section
variable {h h' : Heap} {ks ks2 : List CK} {j : Nat} {a : AV} {X : List (List AV)} {Y : List (List (List AV))}
theorem inner_at : ∀ {X : List (List AV)} {Y : List (List (List AV))}, innerOf h ks2 j X = some Y → Y.length = X.length ∧ ∀ (i : Nat) (x : List AV), X[i]? = some x → ∃ v l, x[j]? = some v ∧ Y[i]? = some l ∧ LstP h ks2 v l
  | [], Y, e => by cases e; exact ⟨rfl, by simp⟩
  | x :: X, Y, e => by
    simp only [innerOf] at e
    split at e
    · rename_i l Y' h1 h2
      cases e
      obtain ⟨g1, g2⟩ := inner_at h2
      refine ⟨by simp [g1], fun i y hi => ?_⟩
      cases i with
      | zero =>
        simp at hi; subst hi
        cases hx : x[j]? with
        | none => rw [hx] at h1; cases h1
        | some v => rw [hx] at h1; exact ⟨v, l, rfl, rfl, lstOf_p h1⟩
      | succ i => exact g2 i y (by simpa using hi)
    · cases e
theorem inner_mk : ∀ {X : List (List AV)} {Y : List (List (List AV))}, Y.length = X.length → (∀ (i : Nat) (x : List AV), X[i]? = some x → ∃ v l, x[j]? = some v ∧ Y[i]? = some l ∧ LstP h ks2 v l) → innerOf h ks2 j X = some Y
  | [], Y, e, _ => by have := List.length_eq_zero_iff.1 e; subst this; rfl
  | x :: X, Y, e, hx => by
    cases Y with
    | nil => simp at e
    | cons l Y =>
      obtain ⟨v, l', h1, h2, h3⟩ := hx 0 x rfl
      simp at h2; subst h2
      have ih := inner_mk (X := X) (Y := Y) (by simpa using e) fun i y hi => by simpa using hx (i + 1) y (by simpa using hi)
      simp only [innerOf, h1, Option.bind_some, lstOf_eq h3, ih]
theorem inner_same (hs : SameH h h') : ∀ {X : List (List AV)} {Y : List (List (List AV))}, innerOf h ks2 j X = some Y → innerOf h' ks2 j X = some Y := fun {X Y} e => by
  obtain ⟨h1, h2⟩ := inner_at e
  exact inner_mk h1 fun i x hx => let ⟨v, l, g1, g2, g3⟩ := h2 i x hx; ⟨v, l, g1, g2, g3.same hs⟩
theorem RowN.same (r : RowN h ks j ks2 a X Y) (hs : SameH h h') : RowN h' ks j ks2 a X Y := ⟨r.1.same hs, inner_same hs r.2⟩
theorem rowsOf_eq (r : RowN h ks j ks2 a X Y) : rowsOf h ks j ks2 a = some (X, Y) := by unfold rowsOf; rw [lstOf_eq r.1]; simp only; rw [r.2]
theorem rowsOf_same (r : RowN h ks j ks2 a X Y) (hs : SameH h h') : rowsOf h' ks j ks2 a = some (X, Y) := rowsOf_eq (r.same hs)
theorem RowN.len (r : RowN h ks j ks2 a X Y) : Y.length = X.length := (inner_at r.2).1
theorem RowN.get (r : RowN h ks j ks2 a X Y) {i : Nat} {x : List AV} (hx : X[i]? = some x) : ∃ v l, x[j]? = some v ∧ Y[i]? = some l ∧ LstP h ks2 v l := (inner_at r.2).2 i x hx
end
/-! ### results -/
abbrev ksR : List CK := [.i .i64, .i .i64, .i .i64, .i .i64, .l]
def in64 (n : Int) : Prop := -9223372036854775808 ≤ n ∧ n ≤ 9223372036854775807
theorem cks_R {l : List AV} (h : cksOk ksR l) : ∃ q k c p o, l = [.int .i64 q, .int .i64 k, .int .i64 c, .int .i64 p, o] ∧ in64 q ∧ in64 k ∧ in64 c ∧ in64 p := by
  obtain ⟨a, r, rfl, ha, b, r, rfl, hb, c, r, rfl, hc, d, r, rfl, hd, e, r, rfl, he, rfl⟩ := h
  cases a <;> simp only [ckOk] at ha <;> try exact ha.elim
  cases b <;> simp only [ckOk] at hb <;> try exact hb.elim
  cases c <;> simp only [ckOk] at hc <;> try exact hc.elim
  cases d <;> simp only [ckOk] at hd <;> try exact hd.elim
  obtain ⟨rfl, a1, a2⟩ := ha
  obtain ⟨rfl, b1, b2⟩ := hb
  obtain ⟨rfl, c1, c2⟩ := hc
  obtain ⟨rfl, d1, d2⟩ := hd
  exact ⟨_, _, _, _, _, rfl, ⟨a1, a2⟩, ⟨b1, b2⟩, ⟨c1, c2⟩, ⟨d1, d2⟩⟩
theorem cks_V64 {l : List AV} (h : cksOk ksV l) : ∃ k n t, l = [.int .i64 k, .int .i64 n, .str t] ∧ in64 k ∧ in64 n ∧ t.length ≤ maxLen := by
  obtain ⟨a, r, rfl, ha, b, r, rfl, hb, c, r, rfl, hc, rfl⟩ := h
  cases a <;> simp only [ckOk] at ha <;> try exact ha.elim
  cases b <;> simp only [ckOk] at hb <;> try exact hb.elim
  cases c <;> simp only [ckOk] at hc <;> try exact hc.elim
  obtain ⟨rfl, a1, a2⟩ := ha
  obtain ⟨rfl, b1, b2⟩ := hb
  exact ⟨_, _, _, rfl, ⟨a1, a2⟩, ⟨b1, b2⟩, hc⟩
noncomputable def resT : List AV → List (List AV) → List UInt8
  | [.int _ q, .int _ k, .int _ c, .int _ p, _], o => printR q k c p o
  | _, _ => []
noncomputable def tabT (X : List (List AV)) (Y : List (List (List AV))) : List UInt8 := (List.zipWith (fun x o => resT x o ++ [10]) X Y).flatten
theorem zip_take {α β γ : Type} (f : α → β → γ) : ∀ (X : List α) (Y : List β) (n : Nat), List.zipWith f (X.take n) (Y.take n) = (List.zipWith f X Y).take n := fun X Y n => by rw [List.take_zipWith]
theorem tabT_take {X : List (List AV)} {Y : List (List (List AV))} {i : Nat} {x : List AV} {o : List (List AV)} (hx : X[i]? = some x) (ho : Y[i]? = some o) : tabT (X.take (i + 1)) (Y.take (i + 1)) = tabT (X.take i) (Y.take i) ++ (resT x o ++ [10]) := by
  unfold tabT
  rw [zip_take, zip_take, List.take_add_one]
  have : (List.zipWith (fun x o => resT x o ++ [10]) X Y)[i]? = some (resT x o ++ [10]) := by
    rw [List.getElem?_zipWith, hx, ho]
  rw [this]
  simp
/-- two lists of results are the same -/
def resAll (X X2 : List (List AV)) (Y Y2 : List (List (List AV))) : Prop := X.length = X2.length ∧ ∀ (i : Nat) (x x2 : List AV) (o o2 : List (List AV)), X[i]? = some x → X2[i]? = some x2 → Y[i]? = some o → Y2[i]? = some o2 → x.take 4 = x2.take 4 ∧ o = o2
section
variable {h h1 : Heap} {F : Nat} {a : AV} {X : List (List AV)} {Y : List (List (List AV))}
theorem res_at (hw : Wf ⟨h, F⟩) (hl : RowN h ksR 4 ksV a X Y) (hs : SameH h h1) {i : Nat} (hi : i < X.length) : ∃ b o eo cap q k c p v l, a = .slice b o eo X.length cap ∧ b < ky F 0 ∧ X[i]? = some [.int .i64 q, .int .i64 k, .int .i64 c, .int .i64 p, v] ∧ Y[i]? = some l ∧
    in64 q ∧ in64 k ∧ in64 c ∧ in64 p ∧ LstP h ksV v l ∧ rdAB (hget h1 b) (o + i * 5) 5 = some [.int .i64 q, .int .i64 k, .int .i64 c, .int .i64 p, v] ∧ rdAB (hget h1 b) (o + i * 5 + 4) 1 = some [v] := by
  obtain ⟨b, o, eo, cap, e, h0, hp⟩ := hl.1.at hi
  obtain ⟨q, k, c, p, v, el, q1, q2, q3, q4⟩ := cks_R (hl.1.ok hi)
  have hx : X[i]? = some [.int .i64 q, .int .i64 k, .int .i64 c, .int .i64 p, v] := by rw [List.getElem?_eq_getElem hi, el]
  obtain ⟨v', l, g1, g2, g3⟩ := hl.get hx
  simp at g1; subst g1
  rw [el] at h0 hp
  exact ⟨b, o, eo, cap, q, k, c, p, v, l, e, rd_low hw h0, hx, g2, q1, q2, q3, q4, g3, hs.rd h0, hs.rd (hp 4 1 (by decide))⟩
end
end Go.Ai

/-! A call of the shelf whose end is: new memory at the end, draws; and what it answers is no place. A table that a world holds. -/
namespace Go.Ai
open Go
variable {P : Program} {G : Glob}
theorem snd_grow (hn : NoNum P) {f : FuncId} {fn : Func} {c : Code} (hf : P.funcs[f]? = some fn) (hb : fn.body = some c) {args : List AV} {a : AV} {us : List Value} {u : Value} {s : St} (hargs : ∀ ρ vs, RVs ρ args vs → vs = us) (ha : ∀ ρ, RV ρ a u)
    (hc : ∀ base w, RG G base w → Calls P f us.toArray w fun e w' => e = .returned u ∧ ∃ k os, w' = Go.Sort.grow (w.drewN k) os) : Snd P G f args s [.val a s] := by
  intro base ρ w vs rv rm
  have := hargs ρ vs rv
  subst this
  rw [callFunc_enter hn hf hb]
  refine Calls.mono (hc base w rm.rg) ?_
  rintro x w' ⟨rfl, k, os, rfl⟩
  refine ⟨ρ, .inl ⟨a, s, u, List.mem_singleton.2 rfl, rfl, ha ρ, rm.keeps ⟨rfl, rfl, rfl, by simp [Go.Sort.grow, World.drewN], fun b hb _ => ?_⟩⟩⟩
  simp only [Go.Sort.grow]
  exact Array.getElem?_append_left hb
/-- numbers as a table's cells -/
noncomputable def tabA (k : IntKind) (zs : List Int) : List AV := zs.map fun z => .int k z
theorem tab_is {base g : Nat} {w : World} {k : IntKind} {zs : List Int} {name : String} (rg : RG G base w) (hg : gget G g = some (tabA k zs)) (hn : P.globalNamed name = some g) : Go.Lib.TabIs P w name k zs := by
  obtain ⟨_, c, ty, fz, hc, hs, hv⟩ := rg g _ hg
  unfold Go.Lib.TabIs World.var?
  rw [hn]
  simp only [Option.bind_some, hc, Option.some.injEq]
  have hs : c.size = zs.length := by rw [hs, tabA, List.length_map]
  apply Array.ext_getElem?
  intro i
  by_cases hi : i < zs.length
  · obtain ⟨v, h1, h2⟩ := hv i (.int k zs[i]) (by rw [tabA, List.getElem?_map, List.getElem?_eq_getElem hi]; rfl)
    simp only [RV] at h2
    rw [h1, h2]
    simp [hi]
  · rw [Array.getElem?_eq_none (by omega)]
    simp [hi]
end Go.Ai

/-! A law in the memory that it finds, with package-level variables. Contracts without them serve with them. -/
namespace Go.Ai
open Go Go.RowKit
variable {P : Program} {G : Glob}
theorem snd_glob {f : FuncId} {args : List AV} {s : St} {outs : List Out} (h : Snd P [] f args s outs) : Snd P G f args s outs := by
  intro base ρ w vs rv rm
  exact h base ρ w vs rv ⟨rm.rh, fun g l h => by simp [gget] at h, rm.bs, rm.hi⟩
theorem rm_absG (w : World) (rg : RG G w.heap.size w) : RM G w.heap.size (rhoW w) (absS w) w := let r := rm_abs w; ⟨r.rh, rg, r.bs, r.hi⟩
theorem rg_nil (base : Nat) (w : World) : RG [] base w := fun g l h => by simp [gget] at h
theorem rg_cons {base g : Nat} {w : World} {l : List AV} {name : String} {vs : List Value} (hb : w.heap.size ≤ base) (hn : P.globalNamed name = some g) (hv : w.var? P name = some vs.toArray) (hl : vs.length = l.length) (hr : ∀ (i : Nat) (a : AV), l[i]? = some a → ∃ v, vs[i]? = some v ∧ RV (fun _ => none) a v) (rg : RG G base w) : RG ((g, l) :: G) base w := by
  intro g' l' hg
  simp only [gget] at hg
  split at hg
  · rename_i he
    have he := Nat.eq_of_beq_eq_true he
    subst he
    cases hg
    unfold World.var? at hv
    rw [hn] at hv
    simp only [Option.bind_some] at hv
    cases hc : w.heap[g]? with
    | none => rw [hc] at hv; cases hv
    | some ob =>
      rw [hc] at hv
      cases ob with
      | cells c ty fz =>
        simp only [Option.some.injEq] at hv
        subst hv
        exact ⟨Nat.lt_of_lt_of_le (Array.getElem?_eq_some_iff.1 hc).1 hb, _, ty, fz, rfl, by simp [hl], fun i a ha => by simpa using hr i a ha⟩
      | _ => cases hv
  · exact rg g' l' hg
/-- A LAW IN THE MEMORY THAT IT FINDS: it is only read. -/
theorem calls_absG {f : FuncId} {fn : Func} {c : Code} (hn : NoNum P) (hf : P.funcs[f]? = some fn) (hb : fn.body = some c) {args : List AV} {w : World} {vs : List Value} {Q : Out → Prop} (rg : RG G w.heap.size w) (rv : RVs (rhoW w) args vs) (h : SndQ P G f args (absS w) Q)
    (hq : ∀ o, Q o → ∃ s', o = .val (.bool true) s') : Calls P f vs.toArray w fun e w' => e = .returned (.bool true) ∧ Keeps (fun _ => False) w w' := by
  obtain ⟨outs, h1, h2⟩ := h
  have := h1 w.heap.size (rhoW w) w vs rv (rm_absG w rg)
  rw [callFunc_enter hn hf hb] at this
  refine Calls.mono (this : Calls P f vs.toArray w _) ?_
  have keep : ∀ {ρ' : Map} {s' : St} {w' : World}, Adv w.heap.size (fun _ => False) (rhoW w) (absS w) w ρ' s' w' → Keeps (fun _ => False) w w' := fun h =>
    ⟨h.st.keeps.os, h.st.keeps.tape, h.st.keeps.output, h.st.keeps.size, fun b hb _ => h.st.keeps.block b hb (by
      rintro ⟨i, e, ⟨ab, hi, hm⟩, _⟩
      have hi : hget (absH w) i = some ab := hi
      rw [hget_absH] at hi
      cases ho : w.heap[i]? with
      | none => rw [ho] at hi; cases hi
      | some o =>
        rw [ho] at hi
        simp only [Option.bind_some] at hi
        cases o with
        | cells c ty fz =>
          simp only [absO, Option.some.injEq] at hi
          subst hi
          exact hm
        | _ => simp [absO] at hi)⟩
  rintro e w' ⟨ρ', ⟨v', s'', u, g1, g2, g3, g4⟩ | ⟨v', s'', u, g1, g2, g3, g4⟩⟩
  · obtain ⟨s0, hs⟩ := hq _ (h2 _ g1)
    cases hs
    simp only [RV] at g3
    subst g3
    exact ⟨g2, keep g4⟩
  · obtain ⟨s0, hs⟩ := hq _ (h2 _ g1)
    cases hs
/-- A call of the shelf behind which all that was there is as it was; it answers no place. -/
theorem snd_below (hn : NoNum P) {f : FuncId} {fn : Func} {c : Code} (hf : P.funcs[f]? = some fn) (hb : fn.body = some c) {args : List AV} {a : AV} {u : Value} {s : St} (ha : ∀ ρ, RV ρ a u)
    (hc : ∀ base ρ w vs, RVs ρ args vs → RM G base ρ s w → Calls P f vs.toArray w fun e w' => e = .returned u ∧ Below w.heap.size w w') : Snd P G f args s [.val a s] := by
  intro base ρ w vs rv rm
  rw [callFunc_enter hn hf hb]
  refine Calls.mono (hc base ρ w vs rv rm) ?_
  rintro x w' ⟨rfl, h⟩
  exact ⟨ρ, .inl ⟨a, s, u, List.mem_singleton.2 rfl, rfl, ha ρ, rm.keeps ⟨h.os, h.tape, h.output, h.size, fun b hb _ => h.block b hb⟩⟩⟩
end Go.Ai

/-! strings.Join of a slice of texts. -/
namespace Go.Ai
open Go Go.RowKit
variable {P : Program} {G : Glob}
def tL (ss : List (List UInt8)) : List (List AV) := ss.map fun s => [AV.str s]
theorem tL_len (ss : List (List UInt8)) : (tL ss).length = ss.length := by simp [tL]
theorem tL_flat (ss : List (List UInt8)) : (tL ss).flatten = ss.map AV.str := by
  induction ss with
  | nil => rfl
  | cons s ss ih => simp only [tL, List.map_cons, List.flatten_cons] at *; rw [ih]; rfl
theorem rvs_str {ρ : Map} : ∀ {ss : List (List UInt8)} {vs : List Value}, RVs ρ (ss.map AV.str) vs → vs = ss.map fun s => Value.string ⟨s.toArray⟩
  | [], vs, h => by simpa [RVs] using h
  | s :: ss, vs, h => by
    simp only [List.map_cons, RVs] at h
    obtain ⟨v, r, h1, h2, rfl⟩ := h
    simp only [RV] at h1
    rw [h1, rvs_str h2]
    rfl
def JoinC (P : Program) (f : FuncId) : Prop := ∀ (bk o c : Nat) (xs : List ByteArray) (sep : ByteArray) (w : World), (∀ (j : Nat) x, xs[j]? = some x → w.cell? ⟨bk, o + j, none⟩ = some (.string x)) → bk < w.heap.size → xs.length ≤ 140737488355328 → xs.length ≤ c →
  (Lib.join (xs.map (·.data.toList)) sep.data.toList).length ≤ 140737488355328 → Calls P f #[.slice (some ⟨bk, o, none⟩) xs.length c, .string sep] w fun e w' => e = .returned (.string ⟨(Lib.join (xs.map (·.data.toList)) sep.data.toList).toArray⟩) ∧ Below w.heap.size w w'
theorem snd_join (hn : NoNum P) {f : FuncId} {fn : Func} {c : Code} (hf : P.funcs[f]? = some fn) (hb : fn.body = some c) (hc : JoinC P f) {h : Heap} {F : Nat} {a : AV} {ss : List (List UInt8)} {sep : List UInt8} (hl : LstP h ksT a (tL ss)) (hp : 0 < ss.length) (hm : ss.length ≤ 100000000) (hj : (Lib.join ss sep).length ≤ 1000000000) :
    Snd P G f [a, .str sep] ⟨h, F⟩ [.val (.str (Lib.join ss sep)) ⟨h, F⟩] := by
  refine snd_below hn hf hb (u := .string ⟨(Lib.join ss sep).toArray⟩) (fun ρ => rfl) ?_
  rintro base ρ w vs ⟨u1, us, r1, ⟨u2, us2, r2, r3, rfl⟩, rfl⟩ rm
  simp only [RV] at r2
  simp only [RVs] at r3
  subst r2 r3
  rcases hl.2.2 with ⟨_, e⟩ | ⟨b, o, eo, cap, rfl, hr⟩
  · have := congrArg List.length e
    rw [tL_len] at this
    rw [List.length_nil] at this; omega
  have hr := hr (by rw [tL_len]; exact hp)
  rw [tL_flat, ← readCells_eq, tL_len, show ksT.length = 1 from rfl, Nat.mul_one] at hr
  have bigN : ∀ e : Ent, ρ b = some e → e.b < w.heap.size ∧ ∀ (j : Nat) (x : ByteArray), (ss.map fun s => (⟨s.toArray⟩ : ByteArray))[j]? = some x → w.cell? ⟨e.b, e.o + o + j, none⟩ = some (.string x) := fun e he => by
    obtain ⟨hl1, vs, rs, hs⟩ := readCells_rv rm.rh hr he
    have hvs := rvs_str rs
    subst hvs
    have hcell : ∀ (j : Nat) (x : ByteArray), (ss.map fun s => (⟨s.toArray⟩ : ByteArray))[j]? = some x → w.cell? ⟨e.b, e.o + o + j, none⟩ = some (.string x) := fun j x hx => by
      have := hs j (.string x) (by
        rw [List.getElem?_map] at hx ⊢
        cases hq : ss[j]? with
        | none => rw [hq] at hx; cases hx
        | some s => rw [hq] at hx; cases hx; rfl)
      rw [add_none] at this
      exact this
    refine ⟨?_, hcell⟩
    obtain ⟨s, hs0⟩ : ∃ s, ss[0]? = some s := ⟨ss[0], by simp⟩
    have := hcell 0 ⟨s.toArray⟩ (by rw [List.getElem?_map, hs0]; rfl)
    unfold World.cell? at this
    rcases Nat.lt_or_ge e.b w.heap.size with hlt | hge
    · exact hlt
    · rw [Array.getElem?_eq_none hge] at this; cases this
  have hmm : ((ss.map fun s => (⟨s.toArray⟩ : ByteArray)).map fun x => x.data.toList) = ss := by
    rw [List.map_map]; exact List.map_id' _
  have go : ∀ (e : Ent) (o' cp : Nat), ρ b = some e → o' = o → ss.length ≤ cp → Calls P f #[.slice (some ⟨e.b, e.o + o', none⟩) (tL ss).length cp, .string ⟨sep.toArray⟩] w fun x w' => x = .returned (.string ⟨(Lib.join ss sep).toArray⟩) ∧ Below w.heap.size w w' := fun e o' cp he ho hcp => by
    subst ho
    obtain ⟨h1, h2⟩ := bigN e he
    have := hc e.b (e.o + o') cp (ss.map fun s => (⟨s.toArray⟩ : ByteArray)) ⟨sep.toArray⟩ w h2 h1 (by rw [List.length_map]; omega) (by rw [List.length_map]; omega) (by rw [hmm]; exact Nat.le_trans hj (by decide))
    rw [hmm, List.length_map] at this
    rw [tL_len]
    exact this
  cases cap with
  | some cp =>
    obtain ⟨e, he, o', q1, q2, rfl⟩ := r1
    rw [tL_len] at q1
    exact go e o' cp he (q2 (by omega)) q1
  | none =>
    obtain ⟨e, he, o', q1, q2, rfl⟩ := r1
    rw [tL_len] at q1
    exact go e o' (e.k - eo) he (q2 (by omega)) (by omega)
end Go.Ai

/-! Rows of bytes that grow; texts of them. -/
namespace Go.Ai
open Go
variable {P : Program}
noncomputable def byCells (s : List UInt8) : List AV := s.map fun b => .int .u8 b.toNat
theorem byCells_len (s : List UInt8) : (byCells s).length = s.length := by simp [byCells]
theorem byCells_app (a b : List UInt8) : byCells (a ++ b) = byCells a ++ byCells b := by simp [byCells]
theorem byCells_cell : ∀ s : List UInt8, allCell (byCells s) = true
  | [] => rfl
  | b :: s => by
    have := byCells_cell s
    simp only [byCells, List.map_cons, allCell, isCell] at this ⊢
    exact this
theorem bsA_by : ∀ s : List UInt8, bsA (byCells s) = some s
  | [] => rfl
  | b :: s => by
    have := bsA_by s
    simp only [byCells, List.map_cons, bsA] at this ⊢
    rw [this]
    simp
theorem tagM_self (a : Nat) : tagM a a = a := by unfold tagM; simp
theorem rdAB_rowT (tg : Nat) (l : List AV) (es off n : Nat) : rdAB (some (mkRowT tg l es)) off n = rdAB (some (mkRow l es)) off n := rfl
theorem src_str {h : Heap} (x : List UInt8) : srcCells h 1 (.str x) = some (x.length, byCells x) := by
  simp only [srcCells]; rfl
section
variable {t e t2 by' key : Nat} {d2 : TypeDesc} {s : St} {b : AV} {x : List UInt8}
theorem app_nilB (hu : P.underlying t = some (.slice e)) (h2 : P.underlying t2 = some d2) (hd : d2 = .string ∨ ∃ e2, d2 = .slice e2) (hs : sizeT P e = some 1) (hb : bytesT P e = some by') (hz : zeroOk P e 1 by' = true)
    (hsrc : srcCells s.h 1 b = some (x.length, byCells x)) (hp : 0 < x.length) (hn : x.length ≤ 400000000) (hby : by' ≤ 1000) : appendA P t t2 key s .nils b = some (.slice key 0 0 x.length none, s.upd key (mkRowT (tagA P e) (byCells x) 1)) := by
  obtain ⟨n, hnx⟩ : ∃ k, x.length = k + 1 := ⟨x.length - 1, by omega⟩
  rw [hnx] at hsrc ⊢
  have hble : Nat.ble ((2 * (n + 1) + 1024) * by') 281474976710656 = true := by
    rw [Nat.ble_eq]; exact Nat.le_trans (Nat.mul_le_mul (by omega : 2 * (n + 1) + 1024 ≤ 1000001024) hby) (by decide)
  rcases hd with rfl | ⟨e2, rfl⟩ <;> simp only [appendA, hu, h2, hs, hb, hz, hsrc, hble, rowT_mk]
theorem app_openB (hu : P.underlying t = some (.slice e)) (h2 : P.underlying t2 = some d2) (hd : d2 = .string ∨ ∃ e2, d2 = .slice e2) (hs : sizeT P e = some 1) (hb : bytesT P e = some by') (hz : zeroOk P e 1 by' = true)
    {id : Nat} {l : List UInt8} (hsrc : srcCells s.h 1 b = some (x.length, byCells x)) (hp : 0 < x.length) (hid : hget s.h id = some (mkRowT (tagA P e) (byCells l) 1)) (hn : l.length + x.length ≤ 400000000) (hby : by' ≤ 1000) :
    appendA P t t2 key s (.slice id 0 0 l.length none) b = some (.slice key 0 0 (l.length + x.length) none, ⟨hset (hset s.h id .dead) key (mkRowT (tagA P e) (byCells (l ++ x)) 1), s.fc⟩) := by
  obtain ⟨n, hnx⟩ : ∃ k, x.length = k + 1 := ⟨x.length - 1, by omega⟩
  rw [hnx] at hsrc hn ⊢
  have hble : Nat.ble ((2 * (l.length + (n + 1)) + 1024) * by') 281474976710656 = true := by
    rw [Nat.ble_eq]; exact Nat.le_trans (Nat.mul_le_mul (by omega : 2 * (l.length + (n + 1)) + 1024 ≤ 1000001024) hby) (by decide)
  have hfit : Nat.ble (0 + (l.length + (n + 1)) * 1) (byCells l).length = false := by
    cases hq : Nat.ble (0 + (l.length + (n + 1)) * 1) (byCells l).length with
    | false => rfl
    | true => have := Nat.le_of_ble_eq_true hq; rw [byCells_len] at this; omega
  have hrd : readCells s.h id 0 (l.length * 1) = some (byCells l) := by
    rw [readCells_eq, hid, rdAB_rowT, rdAB_row, if_pos (by rw [byCells_len]; omega), List.drop_zero, List.take_of_length_le (by rw [byCells_len]; omega)]
  have hbb : (Nat.beq 1 1 && Nat.beq 0 (0 * 1) && allCell (byCells x)) = true := by rw [byCells_cell]; rfl
  rw [byCells_app]
  rcases hd with rfl | ⟨e2, rfl⟩
  · simp only [appendA, hu, h2, hs, hb, hz, hsrc, hble, hid]
    simp only [mkRowT, hfit, hbb, hrd, tagM_self, rowT_mk, St.upd_eq]
  · simp only [appendA, hu, h2, hs, hb, hz, hsrc, hble, hid]
    simp only [mkRowT, hfit, hbb, hrd, tagM_self, rowT_mk, St.upd_eq]
/-- a text out of a row of bytes; the row is gone behind it -/
theorem us_row {t1 pe : TypeId} {id : Nat} {l : List UInt8} (h1 : P.underlying t1 = some (.pointer pe)) (hpe : P.underlying pe = some (.int .u8)) (he : P.underlying e = some (.int .u8)) (hs : sizeT P e = some 1) (hid : hget s.h id = some (mkRowT (tagA P e) (byCells l) 1)) (hp : 0 < l.length) (hn : l.length ≤ 1073741824) :
    aUS P s [t1, t2] (some [.ptr id 0, .int .i64 (l.length : Int)]) = some [.val (.str l) ⟨hset s.h id .dead, s.fc⟩] := by
  obtain ⟨n, hnx⟩ : ∃ k, l.length = k + 1 := ⟨l.length - 1, by omega⟩
  have htg : tagA P e = e + 1 := by unfold tagA; rw [he]
  have hrd : readCells s.h id 0 (n + 1) = some (byCells l) := by
    rw [readCells_eq, hid, rdAB_rowT, rdAB_row, if_pos (by rw [byCells_len]; omega), List.drop_zero, List.take_of_length_le (by rw [byCells_len]; omega)]
  have hle : Nat.ble (n + 1) 1073741824 = true := Nat.ble_eq_true_of_le (by omega)
  rw [htg] at hid
  rw [hnx]
  show aUS1 P s id 0 (n + 1) (P.underlying t1) = _
  simp only [aUS1, h1, hid, mkRowT, aUS2, he, hpe, hs, hle, hrd, aUS3, bsA_by, aUS4, St.upd_eq]
end
end Go.Ai

/-! A strings.Builder in the abstract memory: its copy check (by the shelf), its bytes. -/
namespace Go.Ai
open Go Go.RowKit
variable {P : Program} {G : Glob}
noncomputable def bRowT (tB : TypeId) (p buf : AV) : AB := mkRowT (tB + 1) [p, buf] 0
theorem rd_bld0 {tB : TypeId} {p buf : AV} : rdAB (some (bRowT tB p buf)) 0 1 = some [p] := by rw [bRowT, rdAB_rowT, rdAB_row]; rfl
theorem rd_bld1 {tB : TypeId} {p buf : AV} : rdAB (some (bRowT tB p buf)) 1 1 = some [buf] := by rw [bRowT, rdAB_rowT, rdAB_row]; rfl
theorem wrAB_rowT (h : Heap) (id tg : Nat) (l : List AV) (es off : Nat) (vs : List AV) : wrAB h id (some (mkRowT tg l es)) off vs = if off + vs.length ≤ l.length ∧ allCell vs = true then some (hset h id (mkRowT tg (ovr l off vs) es)) else none := by
  simp only [mkRowT, wrAB]
  by_cases h1 : off + vs.length ≤ l.length
  · rw [Nat.ble_eq_true_of_le h1, Bool.true_and]
    cases h2 : allCell vs with
    | true => simp only [h1, and_self, if_true]; rw [T.setList_ovr _ _ _ h1, ovr_length]
    | false => simp
  · cases hb : Nat.ble (off + vs.length) l.length with
    | true => exact absurd (Nat.le_of_ble_eq_true hb) h1
    | false => simp [h1]
theorem wr_bld1 {h : Heap} {id : Nat} {tB : TypeId} {p buf v : AV} (hc : isCell v = true) : wrAB h id (some (bRowT tB p buf)) 1 [v] = some (hset h id (bRowT tB p v)) := by
  rw [bRowT, wrAB_rowT, if_pos ⟨by simp, by simp [allCell, hc]⟩]; rfl
def CcFresh (P : Program) (f : FuncId) (tB : TypeId) : Prop := ∀ (b : Nat) (w : World), w.cell? ⟨b, 0, none⟩ = some (.pointer none) → w.shape? b = some (tB, 2) → w.frozen? ⟨b, 0, none⟩ = false →
  Calls P f #[.pointer (some ⟨b, 0, none⟩)] w fun e w' => e = .returned (.tuple #[]) ∧ w' = w.setCell ⟨b, 0, none⟩ (.pointer (some ⟨b, 0, none⟩))
def CcUsed (P : Program) (f : FuncId) : Prop := ∀ (b : Nat) (w : World), w.cell? ⟨b, 0, none⟩ = some (.pointer (some ⟨b, 0, none⟩)) →
  Calls P f #[.pointer (some ⟨b, 0, none⟩)] w fun e w' => e = .returned (.tuple #[]) ∧ w' = w
theorem bld_in {base : Nat} {ρ : Map} {h : Heap} {F : Nat} {w : World} (rm : RM G base ρ ⟨h, F⟩ w) {k : Nat} {tB : TypeId} {p buf : AV} (hg : hget h k = some (bRowT tB p buf)) {e : Ent} (he : ρ k = some e) :
    ∃ (c : Array Value) (lo hi : Nat), w.heap[e.b]? = some (.cells c tB (lo, hi)) ∧ e.o = 0 ∧ c.size = 2 ∧ (c.size ≤ lo ∨ hi ≤ lo) ∧ (∃ u, c[0]? = some u ∧ RV ρ p u) ∧ ∃ v, c[1]? = some v ∧ RV ρ buf v := by
  obtain ⟨e', ob, g1, g2, g3, c, ty, lo, hi, k4, kt, k5, k6, k7, k8, k9⟩ := rm.rh.blk k _ hg (by unfold bRowT mkRowT; simp)
  rw [he] at g1; cases g1
  subst k4
  obtain ⟨rfl, h0⟩ := kt tB rfl
  obtain ⟨ho, hs⟩ := h0 rfl
  have hs : c.size = 2 := hs
  refine ⟨c, lo, hi, g3, ho, hs, k8, ?_, ?_⟩
  · obtain ⟨u, hu, ru⟩ := k9 0 (by simp) p (by rw [T.get_setList]; rfl)
    exact ⟨u, by rw [ho] at hu; exact hu, ru⟩
  · obtain ⟨u, hu, ru⟩ := k9 1 (by simp) buf (by rw [T.get_setList]; rfl)
    exact ⟨u, by rw [ho] at hu; exact hu, ru⟩
theorem snd_ccUsed (hn : NoNum P) {f : FuncId} {fn : Func} {c : Code} (hf : P.funcs[f]? = some fn) (hb : fn.body = some c) (hc : CcUsed P f) {h : Heap} {F k : Nat} {tB : TypeId} {buf : AV} (hg : hget h k = some (bRowT tB (.ptr k 0) buf)) :
    Snd P G f [.ptr k 0] ⟨h, F⟩ [.val (.tup []) ⟨h, F⟩] := by
  intro base ρ w vs rv rm
  obtain ⟨v, vs', ⟨e, he, rfl⟩, rfl, rfl⟩ := rv
  obtain ⟨ca, lo, hi, hob, ho, hs, hfr, ⟨u, c0, ru⟩, v, c1, rv⟩ := bld_in rm hg he
  obtain ⟨e', he', rfl⟩ := ru
  rw [he] at he'; cases he'
  rw [ho] at c0
  have hcell : w.cell? ⟨e.b, 0, none⟩ = some (.pointer (some ⟨e.b, 0, none⟩)) := by unfold World.cell?; rw [hob]; exact c0
  rw [callFunc_enter hn hf hb, ho]
  refine Calls.mono (hc e.b w hcell) ?_
  rintro x w' ⟨rfl, rfl⟩
  exact ⟨ρ, .inl ⟨.tup [], _, .tuple #[], List.mem_singleton.2 rfl, rfl, ⟨[], rfl, rfl⟩, rm.keeps (Keeps.refl _ _)⟩⟩
theorem snd_ccFresh (hn : NoNum P) {f : FuncId} {fn : Func} {c : Code} (hf : P.funcs[f]? = some fn) (hb : fn.body = some c) {tB : TypeId} (hc : CcFresh P f tB) {h : Heap} {F k : Nat} {buf : AV} (hg : hget h k = some (bRowT tB .nilp buf)) :
    Snd P G f [.ptr k 0] ⟨h, F⟩ [.val (.tup []) ⟨hset h k (bRowT tB (.ptr k 0) buf), F⟩] := by
  intro base ρ w vs rv rm
  obtain ⟨v, vs', ⟨e, he, rfl⟩, rfl, rfl⟩ := rv
  obtain ⟨ca, lo, hi, hob, ho, hs, hfr, ⟨u, c0, ru⟩, v, c1, rv⟩ := bld_in rm hg he
  simp only [RV] at ru
  subst ru
  have hcell : w.cell? ⟨e.b, 0, none⟩ = some (.pointer none) := by unfold World.cell?; rw [hob]; exact c0
  have hshape : w.shape? e.b = some (tB, 2) := by unfold World.shape?; rw [hob, ← hs]
  have hfz : w.frozen? ⟨e.b, 0, none⟩ = false := by
    unfold World.frozen?
    rw [hob]
    simp only
    rcases hfr with h1 | h1
    · have : ¬ lo ≤ 0 := by omega
      simp [this]
    · by_cases h2 : lo ≤ 0
      · have : ¬ 0 < hi := by omega
        simp [this]
      · simp [h2]
  rw [callFunc_enter hn hf hb, ho]
  refine Calls.mono (hc e.b w hcell hshape hfz) ?_
  rintro x w' ⟨rfl, rfl⟩
  have hat : (w.setCell ⟨e.b, 0, none⟩ (.pointer (some ⟨e.b, 0, none⟩))).heap[e.b]? = some (.cells (ca.setIfInBounds 0 (.pointer (some ⟨e.b, 0, none⟩))) tB (lo, hi)) := by
    simp only [World.setCell, Array.getElem?_modify, if_true, hob, Option.map_some]
    rfl
  have hst : Stp ρ base (hget h) w ρ (hget (hset h k (bRowT tB (.ptr k 0) buf))) (w.setCell ⟨e.b, 0, none⟩ (.pointer (some ⟨e.b, 0, none⟩))) := by
    refine Stp.upd rm.rh hg (by unfold bRowT mkRowT; simp) (by unfold bRowT mkRowT; simp) he rfl rfl rfl (by simp [World.setCell]) hat (fun b hb => Below.heap_setCell w ⟨e.b, 0, none⟩ _ b hb) ?_
    refine ⟨_, tB, lo, hi, rfl, fun u hu => ⟨by injection hu, fun _ => ⟨ho, by rw [Array.size_setIfInBounds, hs]; rfl⟩⟩, ?_, ?_, fun h0 => absurd h0 (by decide), ?_, fun i hi' av hav => ?_⟩
    · rw [Array.size_setIfInBounds, hs, ho]; exact Nat.le_refl _
    · rw [Array.size_setIfInBounds, hs, ho]; simp
    · rw [Array.size_setIfInBounds]; exact hfr
    · have hi2 : i < 2 := hi'
      rw [T.get_setList] at hav
      rw [ho, Nat.zero_add]
      rcases (show i = 0 ∨ i = 1 by omega) with rfl | rfl
      · have hav : some (AV.ptr k 0) = some av := hav
        cases hav
        refine ⟨.pointer (some ⟨e.b, 0, none⟩), ?_, ⟨e, he, by rw [ho]⟩⟩
        rw [Array.getElem?_setIfInBounds, if_pos rfl, if_pos (by omega)]
      · have hav : some buf = some av := hav
        cases hav
        exact ⟨v, by rw [Array.getElem?_setIfInBounds, if_neg (by decide)]; exact c1, rv⟩
  exact ⟨ρ, .inl ⟨.tup [], _, .tuple #[], List.mem_singleton.2 rfl, rfl, ⟨[], rfl, rfl⟩, ⟨hst, Nat.le_refl _, fun _ _ _ => rfl, rm.hi⟩⟩⟩
def Buf (P : Program) (h : Heap) (e A B : Nat) (buf : AV) (l : List UInt8) : Prop := (buf = .nils ∧ l = []) ∨ (0 < l.length ∧ ∃ k, buf = .slice k 0 0 l.length none ∧ hget h k = some (mkRowT (tagA P e) (byCells l) 1) ∧ ky A 0 ≤ k ∧ k < ky B 0)
/-- what a builder at a place holds; its bytes lie in the frames between A and B -/
def Bld (P : Program) (h : Heap) (tB eB b A B : Nat) (l : List UInt8) : Prop :=
  ∃ p buf, hget h b = some (bRowT tB p buf) ∧ (p = .nilp ∨ p = .ptr b 0) ∧ Buf P h eB A B buf l
/-- but for the builder and what lies between A and B the memory is as it was -/
def But (b A B : Nat) (h h' : Heap) : Prop := ∀ i, i ≠ b → (i < ky A 0 ∨ ky B 0 ≤ i) → hget h' i = hget h i
section
variable {t e t2 by' key A B B' f : Nat} {d2 : TypeDesc} {h : Heap} {b buf : AV} {l x : List UInt8}
theorem app_none (hu : P.underlying t = some (.slice e)) (h2 : P.underlying t2 = some d2) (hd : d2 = .string ∨ ∃ e2, d2 = .slice e2) (hs : sizeT P e = some 1) (hb : bytesT P e = some by') (hz : zeroOk P e 1 by' = true)
    (hsrc : srcCells h 1 b = some (0, [])) (hn : l.length ≤ 400000000) (hby : by' ≤ 1000) (hbuf : Buf P h e A B buf l) : appendA P t t2 key ⟨h, f⟩ buf b = some (buf, ⟨h, f⟩) := by
  have hble : Nat.ble ((2 * (l.length + 0) + 1024) * by') 281474976710656 = true := by
    rw [Nat.ble_eq]; exact Nat.le_trans (Nat.mul_le_mul (by omega : 2 * (l.length + 0) + 1024 ≤ 1000001024) hby) (by decide)
  have hble0 : Nat.ble ((2 * 0 + 1024) * by') 281474976710656 = true := by
    rw [Nat.ble_eq]; exact Nat.le_trans (Nat.mul_le_mul (by omega : 2 * 0 + 1024 ≤ 1000001024) hby) (by decide)
  rcases hbuf with ⟨rfl, rfl⟩ | ⟨hp, k, rfl, hg, _, _⟩
  · rcases hd with rfl | ⟨e2, rfl⟩ <;> simp only [appendA, hu, h2, hs, hb, hz, hsrc, hble0]
  · rcases hd with rfl | ⟨e2, rfl⟩ <;> simp only [appendA, hu, h2, hs, hb, hz, hsrc, hble]
theorem app_buf (hu : P.underlying t = some (.slice e)) (h2 : P.underlying t2 = some d2) (hd : d2 = .string ∨ ∃ e2, d2 = .slice e2) (hs : sizeT P e = some 1) (hb : bytesT P e = some by') (hz : zeroOk P e 1 by' = true)
    (hsrc : srcCells h 1 b = some (x.length, byCells x)) (hn : l.length + x.length ≤ 400000000) (hby : by' ≤ 1000) (hbuf : Buf P h e A B buf l) (hk1 : ky A 0 ≤ key) (hk2 : key < ky B' 0) (hB : B ≤ B') :
    ∃ buf' h3, appendA P t t2 key ⟨h, f⟩ buf b = some (buf', ⟨h3, f⟩) ∧ isCell buf' = true ∧ (∀ i, (i < ky A 0 ∨ ky B' 0 ≤ i) → hget h3 i = hget h i) ∧ Buf P h3 e A B' buf' (l ++ x) := by
  have hBB := ky_mono hB
  rcases Nat.eq_zero_or_pos x.length with hx | hx
  · have e0 := List.length_eq_zero_iff.1 hx
    subst e0
    refine ⟨buf, h, app_none hu h2 hd hs hb hz hsrc (by omega) hby hbuf, ?_, fun _ _ => rfl, ?_⟩
    · rcases hbuf with ⟨rfl, _⟩ | ⟨_, k, rfl, _⟩ <;> rfl
    · rw [List.append_nil]
      rcases hbuf with h0 | ⟨hp, k, h1, h2, h3, h4⟩
      · exact .inl h0
      · exact .inr ⟨hp, k, h1, h2, h3, by omega⟩
  · rcases hbuf with ⟨rfl, rfl⟩ | ⟨hp, k, rfl, hg, hk3, hk4⟩
    · refine ⟨_, hset h key (mkRowT (tagA P e) (byCells x) 1), (app_nilB (s := ⟨h, f⟩) hu h2 hd hs hb hz hsrc hx (by omega) hby).trans (by rw [St.upd_eq]; rfl), rfl, fun i hi => ?_, .inr ⟨hx, key, rfl, ?_, hk1, hk2⟩⟩
      · show hget (hset h key _) i = _
        rw [hget_hset, if_neg (by omega)]
      · show hget (hset h key _) key = _
        rw [hget_hset, if_pos rfl]; rfl
    · refine ⟨_, _, app_openB (s := ⟨h, f⟩) hu h2 hd hs hb hz hsrc hx hg hn hby, rfl, fun i hi => ?_, .inr ⟨by rw [List.length_append]; omega, key, by rw [List.length_append], ?_, hk1, hk2⟩⟩
      · rw [hget_hset, if_neg (by omega), hget_hset, if_neg (by omega)]
      · rw [hget_hset, if_pos rfl]
end
/-- bytes in a row of one's own: just made of one byte, or grown -/
def OutB (P : Program) (h : Heap) (e F c : Nat) (out : AV) (l : List UInt8) : Prop := ∃ cap, 0 < l.length ∧ out = .slice (ky F c) 0 0 l.length cap ∧ (cap = none ∨ (cap = some 1 ∧ l.length = 1)) ∧ hget h (ky F c) = some (mkRowT (tagA P e) (byCells l) 1)
theorem src_row {h : Heap} {k tg : Nat} {x : List UInt8} {cap : Option Nat} (hg : hget h k = some (mkRowT tg (byCells x) 1)) : srcCells h 1 (.slice k 0 0 x.length cap) = some (x.length, byCells x) := by
  cases hx : x.length with
  | zero => have := List.length_eq_zero_iff.1 hx; subst this; rfl
  | succ n =>
    simp only [srcCells]
    rw [readCells_eq, hg, rdAB_rowT, rdAB_row, if_pos (by rw [byCells_len, hx]; simp), List.drop_zero, List.take_of_length_le (by rw [byCells_len, hx]; simp)]
theorem OutB.move {h h' : Heap} {e F c : Nat} {out : AV} {l : List UInt8} (o : OutB P h e F c out l) (hg : hget h' (ky F c) = hget h (ky F c)) : OutB P h' e F c out l := let ⟨cap, h1, h2, h3, h4⟩ := o; ⟨cap, h1, h2, h3, hg.trans h4⟩
theorem app_out {t e t2 e2 by' key F c f : Nat} {h : Heap} {b out : AV} {l x : List UInt8} (hu : P.underlying t = some (.slice e)) (h2 : P.underlying t2 = some (.slice e2)) (hs : sizeT P e = some 1) (hb : bytesT P e = some by') (hz : zeroOk P e 1 by' = true)
    (hsrc : srcCells h 1 b = some (x.length, byCells x)) (hp : 0 < x.length) (hn : l.length + x.length ≤ 400000000) (hby : by' ≤ 1000) (ho : OutB P h e F c out l) :
    ∃ h3, appendA P t t2 key ⟨h, f⟩ out b = some (.slice key 0 0 (l ++ x).length none, ⟨h3, f⟩) ∧ hget h3 key = some (mkRowT (tagA P e) (byCells (l ++ x)) 1) ∧ ∀ i, i ≠ key → i ≠ ky F c → hget h3 i = hget h i := by
  obtain ⟨cap, hl, rfl, hcap, hg⟩ := ho
  rcases hcap with rfl | ⟨rfl, h1⟩
  · refine ⟨_, (app_openB (s := ⟨h, f⟩) hu h2 (.inr ⟨e2, rfl⟩) hs hb hz hsrc hp hg hn hby).trans (by rw [List.length_append]), by rw [hget_hset, if_pos rfl], fun i hi hj => ?_⟩
    rw [hget_hset, if_neg hi, hget_hset, if_neg hj]
  · obtain ⟨n, hnx⟩ : ∃ k, x.length = k + 1 := ⟨x.length - 1, by omega⟩
    refine ⟨hset h key (mkRowT (tagA P e) (byCells (l ++ x)) 1), ?_, by rw [hget_hset, if_pos rfl], fun i hi _ => by rw [hget_hset, if_neg hi]⟩
    rw [List.length_append, h1, byCells_app]
    rw [hnx] at hsrc hn ⊢
    have hble : Nat.ble ((2 * (1 + (n + 1)) + 1024) * by') 281474976710656 = true := by
      rw [Nat.ble_eq]; exact Nat.le_trans (Nat.mul_le_mul (by omega : 2 * (1 + (n + 1)) + 1024 ≤ 1000001024) hby) (by decide)
    have hrd : readCells h (ky F c) 0 (1 * 1) = some (byCells l) := by
      rw [readCells_eq, hg, rdAB_rowT, rdAB_row, if_pos (by rw [byCells_len, h1]; simp), List.drop_zero, List.take_of_length_le (by rw [byCells_len, h1]; simp)]
    have hfit : Nat.ble (0 + (1 + (n + 1)) * 1) (byCells l).length = false := by
      cases hq : Nat.ble (0 + (1 + (n + 1)) * 1) (byCells l).length with
      | false => rfl
      | true => have := Nat.le_of_ble_eq_true hq; rw [byCells_len, h1] at this; omega
    have hfit2 : Nat.ble (1 + (n + 1)) 1 = false := by
      cases hq : Nat.ble (1 + (n + 1)) 1 with
      | false => rfl
      | true => have := Nat.le_of_ble_eq_true hq; omega
    simp only [appendA, hu, h2, hs, hb, hz, hsrc, hble, hg]
    simp only [mkRowT, hfit, hfit2, hrd, rowT_mk, St.upd_eq]
theorem bytesOf_by : ∀ s : List UInt8, bytesOfA (byCells s) = some s
  | [] => rfl
  | b :: s => by
    have := bytesOf_by s
    have h256 : Nat.blt b.toNat 256 = true := by rw [Nat.blt_eq]; exact b.toNat_lt
    show (match Nat.blt b.toNat 256, bytesOfA (byCells s) with
      | true, some l => some (UInt8.ofNat b.toNat :: l)
      | _, _ => none) = some (b :: s)
    rw [this, h256]
    simp
theorem rCv_by {h : Heap} {src dst e k tg : Nat} {l : List UInt8} {cap : Option Nat} (hs : P.underlying src = some (.slice e)) (he : P.underlying e = some (.int .u8)) (hd : P.underlying dst = some .string) (hg : hget h k = some (mkRowT tg (byCells l) 1)) :
    rCv P h src dst (some (.slice k 0 0 l.length cap)) = some (.str l) := by
  have hb : isBytes P src dst = true := by simp only [isBytes, hs, hd, he]
  have hrd : readCells h k 0 l.length = some (byCells l) := by
    rw [readCells_eq, hg, rdAB_rowT, rdAB_row, if_pos (by rw [byCells_len]; simp), List.drop_zero, List.take_of_length_le (by rw [byCells_len]; simp)]
  simp only [rCv, hb, hrd, rCvB, bytesOf_by, someStr]
theorem nBS_by {e key : Nat} {c : Int} (hs : sizeT P e = some 1) (hz : zeroT P e = some (.int .u8 0)) : nBS P key 1 (some (.slice e)) (some [(0, .int .u8 c)]) = some (.slice key 0 0 1 (some 1), mkRowT (tagA P e) [.int .u8 c] 1) := by
  simp only [nBS, nBS2, hs, hz, repl, AV.cells, nBS3, rowT_mk, buildArr]
  rfl

end Go.Ai

/-! Operations on numbers without a sign, conversions. -/
namespace Go.Ai
open Go
variable {P : Program}
theorem wrapU_nat {n : Nat} (h : n < 18446744073709551616) : IntKind.u64.wrap (n : Int) = n := by rw [wrapU]; omega
theorem wrapI_nat {n : Nat} (h : n < 9223372036854775808) : IntKind.i64.wrap (n : Int) = n := wrapI_in (by omega) (by omega)
theorem wrapI32_in {n : Int} (h0 : 0 ≤ n) (h1 : n < 2147483648) : IntKind.i32.wrap n = n := by
  have : IntKind.i32.wrap n = if n % 4294967296 ≥ 2147483648 then n % 4294967296 - 4294967296 else n % 4294967296 := by simp [IntKind.wrap, IntKind.bits, IntKind.signed]
  rw [this]
  split <;> omega
theorem u64_rem {t : TypeId} {a b : Nat} (hb : 0 < b) : intOp P .rem t .u64 .u64 (a : Int) (b : Int) = some (.int .u64 ((a % b : Nat) : Int)) := by
  have h : (b : Int) ≠ 0 := by omega
  rw [intOp_rem h, remU, lock_eq, Int.ofNat_tmod]
theorem u64_quo {t : TypeId} {a b : Nat} (hb : 0 < b) (ha : a < 18446744073709551616) : intOp P .quo t .u64 .u64 (a : Int) (b : Int) = some (.int .u64 ((a / b : Nat) : Int)) := by
  have h : (b : Int) ≠ 0 := by omega
  have h2 : a / b < 18446744073709551616 := Nat.lt_of_le_of_lt (Nat.div_le_self a b) ha
  have h3 : (a : Int).tdiv (b : Int) = ((a / b : Nat) : Int) := (Int.ofNat_tdiv a b).symm
  have e : intOp P .quo t .u64 .u64 (a : Int) (b : Int) = some (.int .u64 (IntKind.u64.wrap ((a : Int).tdiv (b : Int)))) := by
    simp [intOp, binOp, runP, ofS, Op.intDiv, pure, show ¬ b = 0 by omega]
  rw [e, h3, wrapU_nat h2]
theorem u64_add {t : TypeId} {a b : Int} (h0 : 0 ≤ a + b) (h1 : a + b < 18446744073709551616) : intOp P .add t .u64 .u64 a b = some (.int .u64 (a + b)) := by
  have e : intOp P .add t .u64 .u64 a b = some (.int .u64 (IntKind.u64.wrap (a + b))) := by simp [intOp, binOp, runP, ofS, Op.intArith, pure]
  rw [e, wrapU, Int.emod_eq_of_lt h0 h1]
theorem rCv_in {h : Heap} {src dst : TypeId} {d : TypeDesc} {k k' : IntKind} {n : Int} (hd : P.underlying dst = some (.int k)) (hs : P.underlying src = some d) (hw : k.wrap n = n) : rCv P h src dst (some (.int k' n)) = some (.int k n) := by
  simp only [rCv, convA, hd, hs, hw]
theorem rCv_chr {h : Heap} {src dst : TypeId} {d : TypeDesc} {k : IntKind} {n : Int} (hd : P.underlying dst = some .string) (hs : P.underlying src = some d) : rCv P h src dst (some (.int k n)) = some (.str (Utf8.encode n).data.toList) := by
  simp only [rCv, convA, hd, hs]
theorem chr_fin : ∀ d : Fin 10, (Utf8.encode ((48 + d.val : Nat) : Int)).data.toList = [UInt8.ofNat (48 + d.val)] := by decide +kernel
theorem chr_dig {d : Nat} (h : d < 10) : (Utf8.encode ((48 : Int) + (d : Int))).data.toList = [UInt8.ofNat (48 + d)] := by
  have := chr_fin ⟨d, h⟩
  rw [← this]
  congr 2
end Go.Ai

