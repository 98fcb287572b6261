/- A part of an evaluator over an abstract heap and of the proof that it is sound for the model. CONDITIONS: those that each theorem names. -/
import Derived.Test.YtneoghpfbgjaiaaGreatDoorAiAct4
namespace Go.Ai
open Go
variable {P : Program} {ρ : Map} {fr : Fr} {a : Act} {base key : Nat} {s : St} {w : World} {outs : List Out}

theorem growBy_le (need : Nat) : ∀ (r c : Nat), c ≤ 2 * need + 1024 → Builtin.growBy need r c ≤ 2 * need + 1024
  | 0, c, h => h
  | r + 1, c, h => by
    unfold Builtin.growBy
    split
    · exact h
    · exact growBy_le need r _ (by omega)
theorem nsc_le {need old : Nat} (h : old < need) : Builtin.nextslicecap need old ≤ 2 * need + 1024 := by
  unfold Builtin.nextslicecap
  split
  · omega
  · split
    · omega
    · exact growBy_le need 4 old (by omega)

structure AppT (P : Program) (t t2 e : TypeId) (es by' : Nat) (zu : Value) : Prop where
  und : P.underlying t = some (.slice e)
  two : ∃ d, P.underlying t2 = some d ∧ ∀ k, d ≠ .int k
  size : sizeT P e = some es
  info : ∃ i, P.info? e = some i ∧ i.bytes = by'
  zero : ∀ w, (zeroValue e).run P w = .ok zu w
  cells : zu.cells.size = es
  pos : 0 < es
  bytes : 0 < by'

theorem two_int {d : TypeDesc} (h : ∀ k, d ≠ .int k) : (match d with | .int _ => true | _ => false) = false := by
  cases d <;> first | rfl | exact absurd rfl (h _)

section
variable {t t2 e ty : TypeId} {es by' n sLen sCap : Nat} {zu x : Value} {ats : Array TypeId} {args : Array Value} {bs : Option Addr}

theorem append_room (h : AppT P t t2 e es by' zu) (a0 : ats[0]? = some t) (a1 : ats[1]? = some t2) (b0 : args[0]? = some (.slice bs sLen sCap)) (b1 : args[1]? = some x)
    (hn : ∀ w, (Builtin.lenOf x).run P w = .ok n w) {news : List Value} (hf : (Builtin.firstCells es n x).run P w = .ok news.toArray w) (hfit : sLen + n ≤ sCap) {w' : World}
    (hst : match bs with | some b => (storeCells (b.add (sLen * es)) news).run P w = .ok () w' | none => w' = w) :
    (Builtin.append_ ats ty args).run P w = .ok (.slice bs (sLen + n) sCap) w' := by
  obtain ⟨d, hd, hnd⟩ := h.two
  simp only [Builtin.append_, a0, a1, b0, b1, Sem.run_bind, run_und h.und, Result.andThen_ok, run_sizeT h.size, run_und hd, Sem.run_pure, Bool.false_eq_true, if_false, hn, hfit, if_true, hf, Bool.not_false]
  cases bs with
  | some b => simp only [Sem.run_bind, hst, Result.andThen_ok, Sem.run_pure]
  | none => simp only [Sem.run_pure, hst]

theorem append_grow (h : AppT P t t2 e es by' zu) (a0 : ats[0]? = some t) (a1 : ats[1]? = some t2) (b0 : args[0]? = some (.slice bs sLen sCap)) (b1 : args[1]? = some x)
    (hn : ∀ w, (Builtin.lenOf x).run P w = .ok n w) {olds news : List Value} (ho : (Builtin.firstCells es sLen (.slice bs sLen sCap)).run P w.drew = .ok olds.toArray w.drew) (hf : (Builtin.firstCells es n x).run P w.drew = .ok news.toArray w.drew)
    (hfit : ¬ sLen + n ≤ sCap) (hb : (2 * (sLen + n) + 1024) * by' ≤ 281474976710656) :
    (Builtin.append_ ats ty args).run P w = .ok (.slice (some ⟨w.heap.size, 0, none⟩) (sLen + n) (grownCap w (sLen + n) sCap e))
      (w.drew.alloc (.cells (olds.toArray ++ news.toArray ++ Builtin.zeroCells zu.cells (grownCap w (sLen + n) sCap e - (sLen + n))) e)) := by
  obtain ⟨d, hd, hnd⟩ := h.two
  obtain ⟨i, hi, hib⟩ := h.info
  subst hib
  have hnsc := Nat.le_trans (Nat.mul_le_mul_right i.bytes (nsc_le (need := sLen + n) (old := sCap) (by omega))) hb
  have hbp := h.bytes
  have hneed : (2 * (sLen + n) + 1024) ≤ (2 * (sLen + n) + 1024) * i.bytes := Nat.le_mul_of_pos_right _ hbp
  have h48 : ¬ (Builtin.nextslicecap (sLen + n) sCap * i.bytes > 2 ^ 48) := by omega
  have h63 : ¬ (((sLen + n : Nat) : Int) > IntKind.i64.max ∧ (False ∨ i.bytes = 0)) := by
    rintro ⟨_, h | h⟩
    · exact h
    · omega
  have hq : (Question.appendCap (sLen + n) sCap e).forced = false := rfl
  simp only [Builtin.append_, a0, a1, b0, b1, Sem.run_bind, run_und h.und, Result.andThen_ok, run_sizeT h.size, run_und hd, Sem.run_pure, Bool.false_eq_true, if_false, hn, hfit, if_true, run_typeInfo' hi, h63, h48,
    Bool.not_false, run_choose_drew, hq, run_askRoom, ho, hf, h.zero, run_newRow, grownCap]
  rfl
end
theorem grownCap_le (w : World) (need old : Nat) (e : TypeId) : need ≤ grownCap w need old e := by unfold grownCap Question.cut; simp

/-- the row that 'append' makes -/
theorem row_app {key : Nat} {olds news : List AV} {ou nu : List Value} {es len n cap : Nat} {b : Nat} {zu : Value} {e : TypeId} (ro : RVs ρ olds ou) (rn : RVs ρ news nu) (ho : olds.length = len * es) (hn : news.length = n * es) (hz : zu.cells.size = es)
    (hc : len + n ≤ cap) (hk : ρ key = none) :
    RB (ext ρ key ⟨b, 0, cap⟩) ⟨b, 0, cap⟩ (rowOf (olds ++ news) es) (.cells (ou.toArray ++ nu.toArray ++ Builtin.zeroCells zu.cells (cap - (len + n))) e) := by
  have hsz : (Builtin.zeroCells zu.cells (cap - (len + n))).toList.length = (cap - (len + n)) * es := by simp [Builtin.zeroCells, hz]
  have hl1 := RVs.length ro
  have hl2 := RVs.length rn
  have e1 : (ou ++ nu).length = (len + n) * es := by rw [List.length_append, ← hl1, ← hl2, ho, hn, Nat.add_mul]
  have := rowOf_rb (ρ := ext ρ key ⟨b, 0, cap⟩) (e := ⟨b, 0, cap⟩) (es := es) (ty := e) (lo := 0) (hi := 0) (tail := (Builtin.zeroCells zu.cells (cap - (len + n))).toList) (RVs.mono (ext_mono hk) _ _ (RVs.append ro rn)) rfl
    (by rw [e1, hsz, ← Nat.add_mul]; exact Nat.mul_le_mul_right _ (by simp only; omega)) (fun _ => by rw [RVs.length (RVs.append ro rn), e1]; exact Nat.mul_le_mul_right _ hc) (by simp)
  have e2 : (ou ++ nu ++ (Builtin.zeroCells zu.cells (cap - (len + n))).toList).toArray = ou.toArray ++ nu.toArray ++ Builtin.zeroCells zu.cells (cap - (len + n)) := by
    apply Array.toList_inj.1; simp
  rwa [e2] at this

theorem zeroOk_spec {e : TypeId} {es by' : Nat} (h : zeroOk P e es by' = true) : ∃ z, zeroT P e = some z ∧ z.cells.length = es ∧ 0 < es ∧ 0 < by' := by
  unfold zeroOk at h
  split at h
  · rename_i z hz
    simp only [Bool.and_eq_true, Nat.blt_eq] at h
    exact ⟨z, hz, Nat.eq_of_beq_eq_true h.1.1, h.1.2, h.2⟩
  · cases h

theorem bytesT_spec {e : TypeId} {b : Nat} (h : bytesT P e = some b) : ∃ i, P.info? e = some i ∧ i.bytes = b := by
  unfold bytesT at h
  cases hi : P.info? e with
  | none => rw [hi] at h; cases h
  | some i => rw [hi] at h; simp at h; exact ⟨i, rfl, h⟩

section
variable {dst : Option Tmp} {c : Call} {ty : TypeId} {pos : String} {after : Array Edge} {gd : Option (Nat × Bool)}

/-- a new row by append -/
theorem app_new {t t2 e : TypeId} {es by' n len sCap : Nat} {zu x : Value} {bs : Option Addr} (hT : AppT P t t2 e es by' zu) (hb : c.callee = .builtin .append) (hk : ρ key = none) (hbase : base ≤ w.heap.size)
    (a0 : c.argTypes[0]? = some t) (a1 : c.argTypes[1]? = some t2) (b0 : (c.args.map a.eval)[0]? = some (.slice bs len sCap)) (b1 : (c.args.map a.eval)[1]? = some x)
    (hn : ∀ w, (Builtin.lenOf x).run P w = .ok n w) {olds news : List AV} {ou nu : List Value} (ro : RVs ρ olds ou) (rn : RVs ρ news nu) (lo : olds.length = len * es) (ln : news.length = n * es)
    (ho : (Builtin.firstCells es len (.slice bs len sCap)).run P w.drew = .ok ou.toArray w.drew) (hf : (Builtin.firstCells es n x).run P w.drew = .ok nu.toArray w.drew)
    (hfit : ¬ len + n ≤ sCap) (h48 : (2 * (len + n) + 1024) * by' ≤ 281474976710656) {h1 : Heap} (hs1 : Stp ρ base (hget s.h) w ρ (hget h1) w) :
    Some1 P ρ base key s w ((execOp a.eval ⟨dst, .call c, ty, pos, after, gd⟩).run P w) [.val (.slice key 0 0 (len + n) none) ⟨hset h1 key (rowOf (olds ++ news) es), s.fc⟩] := by
  have hrun := append_grow (ty := ty) hT a0 a1 b0 b1 hn ho hf hfit h48
  have hcap := grownCap_le w (len + n) sCap e
  rw [exec_builtin hb]
  have hstp := Stp.new (key := key) (base := base) (h := h1) (w := w.drew) (k := grownCap w (len + n) sCap e) (o := 0) (Stp.draw hs1.rh).rh hk hbase
    (row_app (key := key) (b := w.drew.heap.size) (e := e) ro rn lo ln hT.cells hcap hk)
  have hall := (hs1.trans (Stp.draw hs1.rh)).trans hstp
  refine .one ⟨_, _, hall, fun i hi => by simp [ext, hi], rfl, .inl ⟨.slice (some ⟨w.heap.size, 0, none⟩) (len + n) (grownCap w (len + n) sCap e), ?_, ⟨_, ext_self _ _, 0, by simpa using hcap, fun _ => rfl, rfl⟩⟩⟩
  simp only [builtin, Sem.run_bind, hrun, Result.andThen_ok, Sem.run_pure]
end
end Go.Ai
