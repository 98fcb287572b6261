/- A part of an evaluator over an abstract heap and of the proof that it is sound for the model. CONDITIONS: those that each theorem names. -/
import Derived.Test.YtneoghpfbgjaiaaGreatDoorAiPure2
namespace Go.Ai
open Go
variable {P : Program} {ρ : Map}

/-- What it means that an operation yields a value in every world, and turns nothing. -/
def YV (P : Program) (ρ : Map) (s : Sem Next) (v : AV) : Prop := ∃ u, (∀ w, s.run P w = .ok (.value u) w) ∧ RV ρ v u

theorem YV.of {s : Sem Value} {v : AV} {u : Value} (h : ∀ w, s.run P w = .ok u w) (r : RV ρ v u) : YV P ρ (do pure (.value (← s))) v :=
  ⟨u, fun w => by simp [h], r⟩

section
variable {fr : Fr} {a : Act} {v : AV}

theorem s_move {x : Operand} (r : RF ρ fr a) (h : fr.ev x = some v) : YV P ρ (pure (.value (a.eval x))) v := ⟨a.eval x, fun _ => rfl, r.ev h⟩

theorem s_pick {c x y : Operand} (r : RF ρ fr a) (h : pPick fr x y (fr.ev c) = some v) : YV P ρ (do pure (.value (if ← asBool (a.eval c) then a.eval x else a.eval y))) v := by
  unfold pPick at h
  split at h
  · rename_i hc
    have := r.ev hc
    simp only [RV] at this
    exact ⟨a.eval x, fun w => by simp [this, asBool], r.ev h⟩
  · rename_i hc
    have := r.ev hc
    simp only [RV] at this
    exact ⟨a.eval y, fun w => by simp [this, asBool], r.ev h⟩
  · cases h

theorem zero_rv {t : TypeId} {z : AV} (h : zeroT P t = some z) : ∃ u, (∀ w, (zeroValue t).run P w = .ok u w) ∧ RV ρ z u ∧ RVs ρ z.cells u.cells.toList := by
  unfold zeroT at h
  cases e : P.info? t with
  | none => rw [e] at h; cases h
  | some i =>
    rw [e] at h; simp only at h
    cases e2 : i.zero with
    | none => rw [e2] at h; cases h
    | some v =>
      rw [e2] at h
      have r := ofA_rv ρ h
      exact ⟨v, fun w => by simp [zeroValue, typeInfo, e, e2], r, cells_rv r⟩

theorem cellsOf_sizeT {t : TypeId} {n : Nat} (h : sizeT P t = some n) : P.cellsOf t = n := by
  obtain ⟨i, hi, e⟩ := info_sizeT h
  simp [Program.cellsOf, hi, e]
theorem mapM_list (w : World) : ∀ (l : List Field), fieldsOk P l = true →
      (l.mapM fun f => do pure (f.offset, ← sizeOf f.type) : Sem (List (Nat × Nat))).run P w = .ok (l.map fun f => (f.offset, P.cellsOf f.type)) w
  | [], _ => by simp [List.mapM_nil]
  | f :: l, h => by
    simp only [fieldsOk] at h
    split at h
    · rename_i n0 hn0
      rw [List.mapM_cons]
      simp only [Sem.run_bind, run_sizeT hn0, Sem.run_pure, Result.andThen_ok]
      rw [mapM_list w l h]
      simp [cellsOf_sizeT hn0]
    · cases h
def placesOf (P : Program) (fs : Array Field) : Array (Nat × Nat) := (fs.toList.map fun f => (f.offset, P.cellsOf f.type)).toArray
theorem mapM_places (fs : Array Field) (w : World) (hs : fieldsOk P fs.toList = true) :
    (fs.mapM fun f => do pure (f.offset, ← sizeOf f.type) : Sem (Array (Nat × Nat))).run P w = .ok (placesOf P fs) w := by
  rw [Array.mapM_eq_mapM_toList]
  simp only [Sem.run_map, mapM_list w fs.toList hs, Result.andThen_ok]
  rfl
theorem placesOf_spec (fs : Array Field) (i : Nat) (f : Field) (n : Nat) (hf : fs.toList[i]? = some f) (hn : sizeT P f.type = some n) : (placesOf P fs)[i]? = some (f.offset, n) := by
  unfold placesOf
  simp only [List.getElem?_toArray, List.getElem?_map, hf, Option.map_some, cellsOf_sizeT hn]

theorem run_underlying' {t : TypeId} {d : TypeDesc} (h : P.underlying t = some d) (w : World) : (underlying t).run P w = .ok d w := run_und h w

theorem s_build {t : TypeId} {parts : Array (Nat × Operand)} (r : RF ρ fr a) (h : pBuild P fr t parts = some v) :
    YV P ρ (do pure (.value (← Instr.build t (parts.map fun (i, x) => (i, a.eval x))))) v := by
  unfold pBuild at h
  split at h
  · rename_i z ps hz hps
    obtain ⟨u, hu, _, rc⟩ := zero_rv (ρ := ρ) hz
    have rp := evParts_rv r hps
    have e : (parts.map fun (i, x) => (i, a.eval x)).toList = parts.toList.map fun (i, x) => (i, a.eval x) := by simp
    unfold pBuild2 at h
    split at h
    · rename_i fs hd
      split at h
      · rename_i hok
        unfold someAgg at h
        split at h
        · rename_i cs hcs
          cases h
          obtain ⟨ov, ho, ro⟩ := fill_struct (P := P) fs.toList (placesOf P fs) (fun i f n => placesOf_spec fs i f n) rp rc hcs
          refine YV.of (u := .agg ov.toArray) (fun w => ?_) ⟨ov, ro, rfl⟩
          simp only [Instr.build, Sem.run_bind, hu, Result.andThen_ok, run_und hd, mapM_places fs w hok]
          rw [e, ho]; rfl
        · cases h
      · cases h
    · rename_i n e' hd
      split at h
      · rename_i es hes
        unfold someAgg at h
        split at h
        · rename_i cs hcs
          cases h
          obtain ⟨ov, ho, ro⟩ := fill_arr es rp rc hcs
          refine YV.of (u := .agg ov.toArray) (fun w => ?_) ⟨ov, ro, rfl⟩
          simp only [Instr.build, Sem.run_bind, hu, Result.andThen_ok, run_und hd, run_sizeT hes]
          rw [e, ho]; rfl
        · cases h
      · cases h
    · cases h
  · cases h

theorem s_field {s : TypeId} {x : Operand} {f : Nat} (r : RF ρ fr a) (h : pF P (fr.ev x) f (P.underlying s) = some v) :
    YV P ρ (do pure (.value (← Instr.field s (a.eval x) f))) v := by
  unfold pF at h
  split at h
  · rename_i fs hd
    unfold pF1 at h
    split at h
    · rename_i fd hfd
      split at h
      · rename_i cs hcs
        obtain ⟨vs, rs, e⟩ := r.ev hcs
        have hf : fs[f]? = some fd := by simpa using hfd
        obtain ⟨u, hu, ru⟩ := part_rv h rs
        refine YV.of (u := u) (fun w => ?_) ru
        simp only [Instr.field, Sem.run_bind, run_und hd, Result.andThen_ok, hf, e, asAgg, Sem.run_pure, hu]
      · cases h
    · cases h
  · cases h

theorem natOf_spec {i : AV} {n : Nat} (h : natOf i = some n) {x : Value} (r : RV ρ i x) : ∃ k, x = .int k (n : Int) := by
  unfold natOf at h
  split at h
  · rename_i k m
    cases h
    simp only [RV] at r
    exact ⟨k, r⟩
  · cases h

theorem s_index {t : TypeId} {x ix : Operand} (r : RF ρ fr a) (h : pIx P t (fr.ev x) (fr.ev ix) = some v) :
    YV P ρ (do pure (.value (← Instr.index t (a.eval x) (a.eval ix)))) v := by
  unfold pIx at h
  split at h
  · rename_i v0 i0 hv hi
    unfold pIx1 at h
    split at h
    · rename_i i hn
      obtain ⟨k, hk⟩ := natOf_spec hn (r.ev hi)
      have rx := r.ev hv
      unfold pIx2 at h
      split at h
      · rename_i n e cs hd
        obtain ⟨vs, rs, e1⟩ := rx
        split at h
        · rename_i es hb hes
          have hlt : i < n := by simpa using hb
          obtain ⟨u, hu, ru⟩ := part_rv h rs
          refine YV.of (u := u) (fun w => ?_) ru
          have hmul : Nat.mul i es = i * es := rfl
          rw [hmul] at hu
          simp only [Instr.index, hk, asIntOf, Sem.run_bind, Sem.run_pure, Result.andThen_ok, run_und hd, e1, Int.toNat_natCast]
          rw [if_pos (by omega)]
          simp only [Sem.run_bind, run_sizeT hes, Result.andThen_ok, hu]
        · cases h
      · rename_i s hd
        simp only [RV] at rx
        split at h
        · rename_i b hb
          cases h
          refine YV.of (u := .int .u8 b.toNat) (fun w => ?_) rfl
          simp only [Instr.index, hk, asIntOf, Sem.run_bind, Sem.run_pure, Result.andThen_ok, run_und hd, rx]
          have : (ByteArray.mk s.toArray)[((i : Int)).toNat]? = some b := by
            obtain ⟨hl, he⟩ := List.getElem?_eq_some_iff.1 hb
            have hsz : (ByteArray.mk s.toArray).size = s.length := by simp [ByteArray.size]
            rw [Int.toNat_natCast, ByteArray.getElem?_lt' _ _ (by rw [hsz]; exact hl)]
            congr 1
          rw [if_pos (by omega), this]
          rfl
        · cases h
      · cases h
    · cases h
  · cases h

theorem s_extract {x : Operand} {i : Nat} (r : RF ρ fr a) (h : pEx i (fr.ev x) = some v) : YV P ρ (do pure (.value (← Instr.extract (a.eval x) i))) v := by
  unfold pEx at h
  split at h
  · rename_i vs hv
    obtain ⟨us, rs, e⟩ := r.ev hv
    obtain ⟨u, hu, ru⟩ := RVs.get rs i v h
    refine YV.of (u := u) (fun w => ?_) ru
    rw [e]
    simp [Instr.extract, hu]
  · cases h

theorem s_mkI {t : TypeId} {x : Operand} (r : RF ρ fr a) (h : pMkI t (fr.ev x) (P.underlying t) = some v) : YV P ρ (do pure (.value (← Instr.makeInterface t (a.eval x)))) v := by
  unfold pMkI at h
  split at h
  · cases h
  · rename_i d hne hd
    split at h
    · rename_i u0 hu0
      cases h
      refine YV.of (u := .iface t (a.eval x)) (fun w => ?_) ⟨_, r.ev hu0, rfl⟩
      simp only [Instr.makeInterface, Sem.run_bind, run_und hd, Result.andThen_ok]
      rfl
    · cases h
  · cases h

theorem arr_map {α β : Type} (f : α → β) (xs : Array α) : xs.map f = (xs.toList.map f).toArray := by apply Array.toList_inj.1; simp

theorem s_mkF {f : Fn} {xs ys : Array Operand} (r : RF ρ fr a) (h : pMkF f (evs fr xs.toList) (evs fr ys.toList) = some v) :
    YV P ρ (do pure (.value (← Instr.makeFunc f (xs.map a.eval) (ys.map a.eval)))) v := by
  unfold pMkF at h
  split at h
  · rename_i u1 u2 h1 h2
    cases h
    have r1 := r.evs h1
    have r2 := r.evs h2
    refine YV.of (u := .func f (xs.map a.eval) (ys.map a.eval)) (fun w => rfl) ⟨_, _, r1, r2, by rw [← arr_map, ← arr_map]⟩
  · cases h

theorem s_nil {x : Operand} (r : RF ρ fr a) {ty : TypeId} {pos : String} {after : Array Edge} {gd : Option (Nat × Bool)} {dst : Option Tmp}
    (h : pNil (fr.ev x) = some v) : YV P ρ (execOp a.eval { dst := dst, op := .nilCheck x, type := ty, pos := pos, after := after, guard := gd }) v := by
  unfold pNil at h
  split at h
  · rename_i i o hv
    cases h
    have rx := r.ev hv
    refine ⟨a.eval x, fun w => ?_, rx⟩
    obtain ⟨e, _, he⟩ := rx
    simp only [execOp, he]; rfl
  · rename_i i o hv
    cases h
    have rx := r.ev hv
    refine ⟨a.eval x, fun w => ?_, rx⟩
    simp only [RV] at rx
    simp only [execOp, rx]; rfl
  · rename_i f b c hv
    cases h
    have rx := r.ev hv
    refine ⟨a.eval x, fun w => ?_, rx⟩
    obtain ⟨_, _, _, _, he⟩ := rx
    simp only [execOp, he]; rfl
  · rename_i t u hv
    cases h
    have rx := r.ev hv
    refine ⟨a.eval x, fun w => ?_, rx⟩
    obtain ⟨_, _, he⟩ := rx
    simp only [execOp, he]; rfl
  · cases h

theorem run_fieldPlace {ad : Addr} {f : Field} {n : Nat} (hn : sizeT P f.type = some (n + 1)) (w : World) : (fieldPlace ad f).run P w = .ok (ad.add f.offset) w := by
  simp [fieldPlace, run_sizeT hn]
theorem add_none (b o n : Nat) : (Addr.mk b o none).add n = ⟨b, o + n, none⟩ := by
  unfold Addr.add; split
  · rename_i h; subst h; rfl
  · rfl

theorem s_fieldAddr {s : TypeId} {x : Operand} {f : Nat} (r : RF ρ fr a) (h : pFA P (fr.ev x) f (P.underlying s) = some v) :
    YV P ρ (do pure (.value (← Instr.fieldAt s (a.eval x) f))) v := by
  unfold pFA at h
  split at h
  · rename_i fs hd
    unfold pFA1 at h
    split at h
    · rename_i fd hfd
      have hf : fs[f]? = some fd := by simpa using hfd
      split at h
      · rename_i n hn
        unfold pFA2 at h
        split at h
        · rename_i i o hv
          cases h
          obtain ⟨e, he, hx⟩ := r.ev hv
          refine YV.of (u := .pointer (some ⟨e.b, e.o + o + fd.offset, none⟩)) (fun w => ?_) ⟨e, he, by show _ = Value.pointer (some ⟨e.b, e.o + (o + fd.offset), none⟩); rw [Nat.add_assoc]⟩
          simp only [Instr.fieldAt, Sem.run_bind, run_und hd, Result.andThen_ok, hf, hx, Instr.sureAddr, Sem.run_pure, run_fieldPlace hn, add_none]
        · rename_i g o hv
          cases h
          have hx := r.ev hv
          simp only [RV] at hx
          refine YV.of (u := .pointer (some ⟨g, o + fd.offset, none⟩)) (fun w => ?_) rfl
          simp only [Instr.fieldAt, Sem.run_bind, run_und hd, Result.andThen_ok, hf, hx, Instr.sureAddr, Sem.run_pure, run_fieldPlace hn, add_none]
        · cases h
      · cases h
    · cases h
  · cases h

theorem off_eq {e : TypeId} {i off o : Nat} (h : offA P e i off = some o) : ∃ es, sizeT P e = some es ∧ o = off + i * es := by
  unfold offA at h
  split at h
  · rename_i es hes
    cases h
    exact ⟨es, hes, rfl⟩
  · cases h

theorem s_indexAddr {t : TypeId} {x ix : Operand} (r : RF ρ fr a) (h : pIA P t (fr.ev x) (fr.ev ix) = some v) :
    YV P ρ (do pure (.value (← Instr.indexAt t (a.eval x) (a.eval ix)))) v := by
  unfold pIA at h
  split at h
  · rename_i v0 i0 hv hi
    unfold pIA1 at h
    split at h
    · rename_i i hn
      obtain ⟨k, hk⟩ := natOf_spec hn (r.ev hi)
      have rx := r.ev hv
      unfold pIA2 at h
      split at h
      · rename_i e id off eo len cap hd
        split at h
        · rename_i hb
          have hlt : i < len := by simpa using hb
          unfold pIA3 at h
          split at h
          · rename_i o ho
            cases h
            obtain ⟨es, hes, rfl⟩ := off_eq ho
            obtain ⟨en, hen, rx⟩ := rx
            have hx : ∃ c, a.eval x = .slice (some ⟨en.b, en.o + off, none⟩) len c := by
              cases cap with
              | some c =>
                obtain ⟨o', hle, ho', hx⟩ := rx
                have := ho' (by omega)
                subst this
                exact ⟨c, hx⟩
              | none =>
                obtain ⟨o', hle, ho', hx⟩ := rx
                have := ho' (by omega)
                subst this
                exact ⟨_, hx⟩
            obtain ⟨c, hx⟩ := hx
            refine YV.of (u := .pointer (some ⟨en.b, en.o + off + i * es, none⟩)) (fun w => ?_) ⟨en, hen, by rw [Nat.add_assoc]⟩
            simp only [Instr.indexAt, hk, asIntOf, Sem.run_bind, Sem.run_pure, Result.andThen_ok, run_und hd, hx, Int.toNat_natCast]
            rw [if_pos (by omega)]
            simp only [Sem.run_bind, Sem.run_pure, Result.andThen_ok, run_sizeT hes, add_none]
          · cases h
        · cases h
      · rename_i n e id off hd
        split at h
        · rename_i hb
          have hlt : i < n := by simpa using hb
          unfold pIA3 at h
          split at h
          · rename_i o ho
            cases h
            obtain ⟨es, hes, rfl⟩ := off_eq ho
            obtain ⟨en, hen, hx⟩ := rx
            refine YV.of (u := .pointer (some ⟨en.b, en.o + off + i * es, none⟩)) (fun w => ?_) ⟨en, hen, by rw [Nat.add_assoc]⟩
            simp only [Instr.indexAt, hk, asIntOf, Sem.run_bind, Sem.run_pure, Result.andThen_ok, run_und hd, hx, Int.toNat_natCast, Instr.sureAddr]
            rw [if_pos (by omega)]
            simp only [Sem.run_bind, Sem.run_pure, Result.andThen_ok, run_sizeT hes, add_none]
          · cases h
        · cases h
      · rename_i n e id off hd
        split at h
        · rename_i hb
          have hlt : i < n := by simpa using hb
          unfold pIA3g at h
          split at h
          · rename_i o ho
            cases h
            obtain ⟨es, hes, rfl⟩ := off_eq ho
            simp only [RV] at rx
            refine YV.of (u := .pointer (some ⟨id, off + i * es, none⟩)) (fun w => ?_) rfl
            simp only [Instr.indexAt, hk, asIntOf, Sem.run_bind, Sem.run_pure, Result.andThen_ok, run_und hd, rx, Int.toNat_natCast, Instr.sureAddr]
            rw [if_pos (by omega)]
            simp only [Sem.run_bind, Sem.run_pure, Result.andThen_ok, run_sizeT hes, add_none]
          · cases h
        · cases h
      · cases h
    · cases h
  · cases h

theorem s_typeAssert {x : Operand} {xt asserted : TypeId} {ok : Bool} (r : RF ρ fr a) (h : pTA P asserted ok (fr.ev x) (P.underlying asserted) = some v) :
    YV P ρ (do pure (.value (← Instr.typeAssert (a.eval x) xt asserted ok))) v := by
  unfold pTA at h
  split at h
  · cases h
  · rename_i d hne hd
    split at h
    · rename_i z hz
      obtain ⟨zu, hzu, rz, _⟩ := zero_rv (ρ := ρ) hz
      have hni : ∀ ms, d ≠ .interface ms := fun ms e => hne ms e
      unfold pTA1 at h
      split at h
      · rename_i t y hv
        obtain ⟨yu, ry, hx⟩ := r.ev hv
        split at h
        · rename_i hb
          cases h
          have ht : t = asserted := Nat.eq_of_beq_eq_true hb
          refine YV.of (u := .tuple #[yu, .bool true]) (fun w => ?_) ⟨[yu, .bool true], ⟨_, _, ry, ⟨_, _, rfl, rfl, rfl⟩, rfl⟩, rfl⟩
          simp only [Instr.typeAssert, Sem.run_bind, run_und hd, Result.andThen_ok, hx]
          cases d <;> simp_all
        · rename_i hb
          cases h
          have ht : t = asserted := Nat.eq_of_beq_eq_true hb
          refine YV.of (u := yu) (fun w => ?_) ry
          simp only [Instr.typeAssert, Sem.run_bind, run_und hd, Result.andThen_ok, hx]
          cases d <;> simp_all
        · rename_i hb
          cases h
          have ht : t ≠ asserted := by intro e; subst e; simp at hb
          refine YV.of (u := .tuple #[zu, .bool false]) (fun w => ?_) ⟨[zu, .bool false], ⟨_, _, rz, ⟨_, _, rfl, rfl, rfl⟩, rfl⟩, rfl⟩
          simp only [Instr.typeAssert, Sem.run_bind, run_und hd, Result.andThen_ok, hx]
          cases d <;> simp_all
        · cases h
      · rename_i hv
        have hx := r.ev hv
        simp only [RV] at hx
        split at h
        · cases h
          refine YV.of (u := .tuple #[zu, .bool false]) (fun w => ?_) ⟨[zu, .bool false], ⟨_, _, rz, ⟨_, _, rfl, rfl, rfl⟩, rfl⟩, rfl⟩
          simp only [Instr.typeAssert, Sem.run_bind, run_und hd, Result.andThen_ok, hx]
          cases d <;> simp_all
        · cases h
      · cases h
    · cases h
  · cases h
end
end Go.Ai
