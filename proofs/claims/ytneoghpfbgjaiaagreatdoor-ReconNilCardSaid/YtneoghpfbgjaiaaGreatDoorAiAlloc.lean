/- A part of an evaluator over an abstract heap and of the proof that it is sound for the model. CONDITIONS: those that each theorem names. -/
import Derived.Test.YtneoghpfbgjaiaaGreatDoorAiRead
namespace Go.Ai
open Go
variable {P : Program} {ρ : Map} {fr : Fr} {a : Act} {v : AV}

/-- one name more -/
def ext (ρ : Map) (k : Nat) (e : Ent) : Map := fun i => if i = k then some e else ρ i
theorem ext_mono {k : Nat} {e : Ent} (h : ρ k = none) : Mono ρ (ext ρ k e) := by
  intro i e' hi
  unfold ext
  split
  · rename_i hk; subst hk; rw [h] at hi; cases hi
  · exact hi
theorem ext_self (k : Nat) (e : Ent) : ext ρ k e k = some e := by simp [ext]

theorem rowOf_eq (l : List AV) (es : Nat) : rowOf l es = .row (T.setList .e 0 l) l.length es := by
  simp [rowOf, T.setListC_eq, natC_eq]

/-- a new row -/
theorem rowOf_rb {e : Ent} {l : List AV} {vs : List Value} {es : Nat} {ty : TypeId} {lo hi : Nat} {tail : List Value} (r : RVs ρ l vs) (ho : e.o = 0) (hk : e.k * es ≤ vs.length + tail.length) (hn : 0 < es → l.length ≤ e.k * es)
    (hf : vs.length + tail.length ≤ lo ∨ hi ≤ lo) :
    RB ρ e (rowOf l es) (.cells (vs ++ tail).toArray ty (lo, hi)) := by
  rw [rowOf_eq]
  have hl := RVs.length r
  refine ⟨_, ty, lo, hi, rfl, by simp; omega, by simp; omega, hn, by simpa using hf, fun i hi av hav => ?_⟩
  rw [T.get_setList] at hav
  rw [if_pos (by omega)] at hav
  obtain ⟨y, hy, ry⟩ := RVs.get r i av (by simpa using hav)
  refine ⟨y, ?_, ry⟩
  have hlt : i < vs.length := by omega
  simp only [ho, Nat.zero_add, List.getElem?_toArray]
  rw [List.getElem?_append_left hlt]
  exact hy

theorem repl_rv {l : List AV} {vs : List Value} (r : RVs ρ l vs) : ∀ n, RVs ρ (repl l n) (repl vs n)
  | 0 => by simp [repl, RVs]
  | n + 1 => RVs.append r (repl_rv r n)
theorem repl_length {α : Type} (l : List α) : ∀ n, (repl l n).length = n * l.length
  | 0 => by simp [repl]
  | n + 1 => by simp [repl, repl_length l n, Nat.succ_mul, Nat.add_comm]
theorem range_repl (l : List Value) : ∀ (n : Nat), (List.range (n * l.length)).map (fun i => l[i % l.length]!) = repl l n
  | 0 => by simp [repl]
  | n + 1 => by
    rw [Nat.succ_mul, Nat.add_comm, List.range_add, List.map_append, List.map_map]
    have e1 : (List.range l.length).map (fun i => l[i % l.length]!) = l := by
      apply List.ext_getElem
      · simp
      · intro i h1 h2
        simp only [List.getElem_map, List.getElem_range]
        rw [Nat.mod_eq_of_lt h2]
        simp [h2]
    have e2 : (List.range (n * l.length)).map ((fun i => l[i % l.length]!) ∘ fun x => l.length + x) = repl l n := by
      rw [← range_repl l n]
      apply List.map_congr_left
      intro i _
      simp
    rw [e1, e2]
    rfl
theorem zero_fill (zu : Array Value) (n sz : Nat) (h : zu.size = sz) : (Array.range (n * sz)).map (fun i => zu[i % zu.size]!) = (repl zu.toList n).toArray := by
  apply Array.toList_inj.1
  rw [Array.toList_map, Array.toList_range]
  have := range_repl zu.toList n
  simp only [Array.length_toList] at this
  rw [← h]
  rw [← this]
  apply List.map_congr_left
  intro i _
  rw [getElem!_def, getElem!_def]
  simp

/-- What it means that an operation makes a new block. -/
def NB (P : Program) (ρ : Map) (key : Nat) (s : Sem Next) (v : AV) (b : AB) : Prop :=
  ∀ w : World, ∃ (ob : Obj) (k : Nat) (u : Value), s.run P w = .ok (.value u) (w.alloc ob) ∧ RV (ext ρ key ⟨w.heap.size, 0, k⟩) v u ∧ RB (ext ρ key ⟨w.heap.size, 0, k⟩) ⟨w.heap.size, 0, k⟩ b ob

theorem run_newRow {ty : TypeId} {cs : Array Value} (w : World) : (newRow ty cs).run P w = .ok ⟨w.heap.size, 0, none⟩ (w.alloc (.cells cs ty)) := by
  simp [newRow]

theorem nVar_nb {key : Nat} {t : TypeId} {z : AV} {u : Value} {b : AB} (hk : ρ key = none) (h : nVar key (some z) = some (v, b)) (r : RV ρ z u) (s : Sem Value)
    (hs : ∀ w, s.run P w = .ok (.pointer (some ⟨w.heap.size, 0, none⟩)) (w.alloc (.cells u.cells t))) : NB P ρ key (do pure (.value (← s))) v b := by
  simp only [nVar, Option.some.injEq, Prod.mk.injEq] at h
  obtain ⟨rfl, rfl⟩ := h
  intro w
  refine ⟨.cells u.cells t, 0, .pointer (some ⟨w.heap.size, 0, none⟩), by simp [hs], ⟨_, ext_self _ _, rfl⟩, ?_⟩
  have := rowOf_rb (ρ := ext ρ key ⟨w.heap.size, 0, 0⟩) (e := ⟨w.heap.size, 0, 0⟩) (es := 0) (ty := t) (lo := 0) (hi := 0) (tail := []) (RVs.mono (ext_mono hk) _ _ (cells_rv r)) rfl (by simp) (by omega) (by simp)
  simpa using this

theorem natOf_int {v : AV} {n : Nat} (h : natOf v = some n) : ∃ k, v = .int k (.ofNat n) := by
  unfold natOf at h
  split at h
  · rename_i k m; cases h; exact ⟨k, rfl⟩
  · cases h

/-- THE OPERATIONS THAT MAKE A BLOCK. -/
theorem alloc_sound {key : Nat} {o : Oper} {b : AB} (r : RF ρ fr a) (hk : ρ key = none) (h : allocOp P fr key o.op = some (v, b)) : NB P ρ key (execOp a.eval o) v b := by
  obtain ⟨dst, op, ty, pos, after, gd⟩ := o
  simp only at h
  unfold allocOp at h
  split at h
  · rename_i t
    cases hz : zeroT P t with
    | none => rw [hz] at h; cases h
    | some z =>
      rw [hz] at h
      obtain ⟨zu, hzu, rz, _⟩ := zero_rv (ρ := ρ) hz
      exact nVar_nb (t := t) hk h rz _ (fun w => by simp [Instr.alloc, hzu, newVar, run_newRow])
  · rename_i t x
    cases hx : fr.ev x with
    | none => rw [hx] at h; cases h
    | some z =>
      rw [hx] at h
      exact nVar_nb (t := t) hk h (r.ev hx) _ (fun w => by simp [Instr.box, newVar, run_newRow])
  · rename_i t len parts
    unfold nBS at h
    split at h
    · rename_i e ps hd hps
      unfold nBS2 at h
      split at h
      · rename_i n z hn hz
        split at h
        · rename_i hb
          simp only [Bool.and_eq_true, Nat.ble_eq, Nat.blt_eq] at hb
          have hb2 := Nat.eq_of_beq_eq_true hb.2
          unfold nBS3 at h
          split at h
          · rename_i cs hcs
            cases h
            obtain ⟨zu, hzu, _, rz⟩ := zero_rv (ρ := ρ) hz
            have rp := evParts_rv r hps
            have hzs : zu.cells.size = n := by have := RVs.length rz; simp at this; omega
            have rr := repl_rv rz len
            obtain ⟨ov, ho, ro⟩ := fill_arr n (cv := (repl zu.cells.toList len).toArray) rp (by simpa using rr) hcs
            have hol : ov.length = len * n := by
              rw [← RVs.length ro]
              have : ∀ (ps : List (Nat × AV)) (cells out : List AV), buildArr n cells ps = some out → out.length = cells.length := by
                intro ps
                induction ps with
                | nil => intro cells out h; simp only [buildArr, Option.some.injEq] at h; rw [h]
                | cons p ps ih =>
                  intro cells out h
                  obtain ⟨i, q⟩ := p
                  simp only [buildArr] at h
                  split at h
                  · simp only [listC_eq] at h; rw [ih _ _ h, fillA_length]
                  · cases h
              rw [this _ _ _ hcs, repl_length, hb2]
            intro w
            refine ⟨.cells ov.toArray e, len, .slice (some ⟨w.heap.size, 0, none⟩) len len, ?_, ⟨_, ext_self _ _, 0, Nat.le_refl _, fun _ => rfl, rfl⟩, ?_⟩
            · have e1 : (parts.map fun (i, x) => (i, a.eval x)).toList = parts.toList.map fun (i, x) => (i, a.eval x) := by simp
              by_cases h0 : len * n = 0
              · have hov : Instr.fill (fun i => some (i * n, n)) #[] (parts.toList.map fun (i, x) => (i, a.eval x)) = some ov.toArray := by
                  rw [← ho]
                  have : (repl zu.cells.toList len).toArray = #[] := by
                    have := repl_length zu.cells.toList len
                    simp only [Array.length_toList, hzs, h0] at this
                    rw [List.length_eq_zero_iff.1 this]
                  rw [this]
                simp only [execOp, Instr.buildSlice, Sem.run_bind, run_und hd, Result.andThen_ok, run_sizeT hn, Sem.run_ite]
                rw [if_neg (by omega), if_pos h0]
                simp only [Sem.run_pure, Result.andThen_ok, h0, e1]
                have hr0 : Array.range 0 = #[] := rfl
                simp only [hr0, Array.map_empty, hov]
                simp [run_newRow]
              · simp only [execOp, Instr.buildSlice, Sem.run_bind, run_und hd, Result.andThen_ok, run_sizeT hn, Sem.run_ite]
                rw [if_neg (by omega), if_neg h0]
                simp only [Sem.run_bind, hzu, Sem.run_pure, Result.andThen_ok, e1, zero_fill zu.cells len n hzs, ho]
                simp [run_newRow]
            · have := rowOf_rb (ρ := ext ρ key ⟨w.heap.size, 0, len⟩) (e := ⟨w.heap.size, 0, len⟩) (es := n) (ty := e) (lo := 0) (hi := 0) (tail := []) (RVs.mono (ext_mono hk) _ _ ro) rfl (by simp [hol]) (fun _ => by rw [RVs.length ro, hol]; exact Nat.le_refl _) (by simp)
              simpa using this
          · cases h
        · cases h
      · cases h
    · cases h
  · cases h
    intro w
    refine ⟨.map #[] 0, 0, .map (some w.heap.size), by simp [execOp, Instr.makeMap], ⟨_, ext_self _ _, rfl⟩, #[], rfl, rfl⟩
  · rename_i t l c
    unfold nMS at h
    split at h
    · rename_i e lv cv hd hl hc
      unfold nMS1 at h
      split at h
      · rename_i ln cn hln hcn
        obtain ⟨kl, hkl⟩ := natOf_spec hln (r.ev hl)
        obtain ⟨kc, hkc⟩ := natOf_spec hcn (r.ev hc)
        unfold nMS2 at h
        split at h
        · rename_i n by' z hn hby hz
          split at h
          · rename_i hb
            simp only [Bool.and_eq_true, Nat.ble_eq, Nat.blt_eq] at hb
            obtain ⟨⟨⟨⟨b1, b2⟩, b3⟩, b4⟩, b5⟩ := hb
            have b4 := Nat.eq_of_beq_eq_true b4
            cases h
            obtain ⟨zu, hzu, _, rz⟩ := zero_rv (ρ := ρ) hz
            have hzs : zu.cells.size = n := by have := RVs.length rz; simp at this; omega
            have rr := repl_rv rz cn
            obtain ⟨inf, hinf, hbytes⟩ : ∃ i, P.info? e = some i ∧ i.bytes = by' := by
              unfold bytesT at hby
              cases hi : P.info? e with
              | none => rw [hi] at hby; cases hby
              | some i => rw [hi] at hby; simp at hby; exact ⟨i, rfl, hby⟩
            have w1 : IntKind.i64.wrap (ln : Int) = ln := IntWalk.i64_in _ (by omega)
            have w2 : IntKind.i64.wrap (cn : Int) = cn := IntWalk.i64_in _ (by omega)
            have hm : ((by' : Int) * (cn : Int)) ≤ ((1073741824 : Nat) : Int) := by rw [← Int.natCast_mul]; exact Int.ofNat_le.2 b2
            intro w
            refine ⟨.cells (repl zu.cells.toList cn).toArray e, cn, .slice (some ⟨w.heap.size, 0, none⟩) ln cn, ?_, ⟨_, ext_self _ _, 0, b1, fun _ => rfl, rfl⟩, ?_⟩
            · have hrow0 : cn * n = 0 → (Array.range (cn * n)).map (fun i => (#[] : Array Value)[i % (#[] : Array Value).size]!) = (repl zu.cells.toList cn).toArray := by
                intro h0
                have hr0 : Array.range 0 = #[] := rfl
                have := repl_length zu.cells.toList cn
                simp only [Array.length_toList, hzs, h0] at this
                rw [List.length_eq_zero_iff.1 this, h0, hr0, Array.map_empty]
              have hrow1 := zero_fill zu.cells cn n hzs
              simp only [execOp, Instr.makeSlice, Sem.run_bind, run_und hd, Result.andThen_ok, hkl, hkc, asInt, asIntOf, Sem.run_pure, run_typeInfo' hinf, hbytes, w1, w2]
              rw [if_neg]
              · by_cases h0 : cn * n = 0
                · simp only [Sem.run_bind, run_askRoom, Result.andThen_ok, run_sizeT hn, Int.toNat_natCast]
                  rw [if_pos h0]
                  simp only [Sem.run_bind, Sem.run_pure, Result.andThen_ok, hrow0 h0, run_newRow]
                · simp only [Sem.run_bind, run_askRoom, Result.andThen_ok, run_sizeT hn, Int.toNat_natCast]
                  rw [if_neg h0]
                  simp only [Sem.run_bind, hzu, Sem.run_pure, Result.andThen_ok, hrow1, run_newRow]
              · simp only [Bool.or_eq_true, decide_eq_true_eq]
                have : (2 : Int) ^ 48 = 281474976710656 := by decide
                omega
            · have := rowOf_rb (ρ := ext ρ key ⟨w.heap.size, 0, cn⟩) (e := ⟨w.heap.size, 0, cn⟩) (es := n) (ty := e) (lo := 0) (hi := 0) (tail := []) (RVs.mono (ext_mono hk) _ _ rr) rfl (by simp [repl_length, hzs]) (fun _ => by rw [repl_length, b4]; exact Nat.le_refl _) (by simp)
              simpa using this
          · cases h
        · cases h
      · cases h
    · cases h
  · cases h
end Go.Ai
