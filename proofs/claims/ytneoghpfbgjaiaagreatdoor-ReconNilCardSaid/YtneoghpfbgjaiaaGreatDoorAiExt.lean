/- A part of an evaluator over an abstract heap and of the proof that it is sound for the model. CONDITIONS: those that each theorem names. -/
import Derived.Test.YtneoghpfbgjaiaaGreatDoorAiTop
import Derived.Laws.Externs
namespace Go.Ai
open Go
variable {P : Program} {G : Glob}

/-! ### the library's functions without a body -/
noncomputable def idxB (c : Nat) : List UInt8 → Nat → Int
  | [], _ => -1
  | b :: bs, i => match Nat.beq b.toNat c with
    | true => i
    | false => idxB c bs (i + 1)
noncomputable def cmpB : List UInt8 → List UInt8 → Int
  | [], [] => 0
  | [], _ :: _ => -1
  | _ :: _, [] => 1
  | a :: x, b :: y => match Nat.blt a.toNat b.toNat, Nat.blt b.toNat a.toNat with
    | true, _ => -1
    | _, true => 1
    | _, _ => cmpB x y

theorem idxB_spec (c : UInt8) : ∀ (l : List UInt8) (i : Nat), idxB c.toNat l i = match (List.range l.length).find? fun k => l[k]! == c with | some k => ((i + k : Nat) : Int) | none => -1
  | [], i => rfl
  | b :: bs, i => by
    simp only [idxB]
    rw [List.length_cons, List.range_succ_eq_map, List.find?_cons]
    cases h : Nat.beq b.toNat c.toNat with
    | true =>
      have e : b = c := UInt8.toNat_inj.1 (Nat.eq_of_beq_eq_true h)
      subst e
      simp
    | false =>
      have e : (b == c) = false := by
        cases hq : b == c with
        | false => rfl
        | true => have := eq_of_beq hq; subst this; simp at h
      have e0 : (((b :: bs)[0]! : UInt8) == c) = false := e
      rw [e0]
      simp only
      rw [idxB_spec c bs (i + 1), List.find?_map]
      have hf : ((fun k => (b :: bs)[k]! == c) ∘ Nat.succ) = fun k => bs[k]! == c := by funext k; simp
      rw [hf]
      cases (List.range bs.length).find? fun k => bs[k]! == c with
      | none => rfl
      | some k => simp only [Option.map_some]; congr 1; omega

theorem cmp_go : ∀ (x y : List UInt8), cmpB x y =
    match (List.range (min x.length y.length)).find? fun i => x[i]! != y[i]! with
    | some i => if x[i]! < y[i]! then -1 else 1
    | none => if x.length < y.length then -1 else if x.length > y.length then 1 else 0
  | [], [] => rfl
  | [], b :: y => by simp [cmpB]
  | a :: x, [] => by simp [cmpB]
  | a :: x, b :: y => by
    have hmin : min (a :: x).length (b :: y).length = min x.length y.length + 1 := by simp only [List.length_cons]; omega
    rw [hmin, List.range_succ_eq_map, List.find?_cons]
    simp only [cmpB]
    have h0 : ((a :: x)[0]! : UInt8) = a := rfl
    have h0' : ((b :: y)[0]! : UInt8) = b := rfl
    have hlt : ∀ u v : UInt8, Nat.blt u.toNat v.toNat = decide (u < v) := fun u v => by
      rw [Bool.eq_iff_iff]
      simp [UInt8.lt_iff_toNat_lt]
    rw [hlt, hlt, h0, h0']
    by_cases hab : a = b
    · subst hab
      have e : (a != a) = false := by simp
      have e1 : decide (a < a) = false := by simp
      rw [e, e1]
      simp only
      rw [cmp_go x y, List.find?_map]
      have hf : ((fun i => ((a :: x)[i]! != (a :: y)[i]!)) ∘ Nat.succ) = fun i => x[i]! != y[i]! := by funext k; simp
      rw [hf]
      cases (List.range (min x.length y.length)).find? fun i => x[i]! != y[i]! with
      | none => simp
      | some k => simp
    · have e : (a != b) = true := by simpa using hab
      rw [e]
      show _ = (if a < b then (-1 : Int) else 1)
      by_cases hl : a < b
      · have e1 : decide (a < b) = true := by simpa using hl
        rw [e1, if_pos hl]
      · have e1 : decide (a < b) = false := by simpa using hl
        have e2 : decide (b < a) = true := by
          have : b < a := by
            rw [UInt8.lt_iff_toNat_lt] at hl ⊢
            have : a.toNat ≠ b.toNat := fun h => hab (UInt8.toNat_inj.1 h)
            omega
          simpa using this
        rw [e1, e2, if_neg hl]

theorem size_mk (l : List UInt8) : (ByteArray.mk l.toArray).size = l.length := by simp [ByteArray.size]
theorem get_mk (l : List UInt8) (i : Nat) : (ByteArray.mk l.toArray)[i]! = l[i]! := by
  by_cases h : i < l.length
  · have h' : i < (ByteArray.mk l.toArray).size := by rw [size_mk]; exact h
    rw [getElem!_pos (ByteArray.mk l.toArray) i h', getElem!_pos l i h]
    rfl
  · have h' : ¬ i < (ByteArray.mk l.toArray).size := by rw [size_mk]; exact h
    rw [getElem!_neg (ByteArray.mk l.toArray) i h', getElem!_neg l i h]

theorem idx_ok {f : FuncId} {fn : Func} (hf : P.funcs[f]? = some fn) (hname : (fn.name == "runtime.NumGoroutine") = false) (hb : fn.body.isNone = true) (hn : Extern.findNext fn = none) (he : Extern.find fn = some Extern.BytealgIndexByte.indexByte)
    {l : List UInt8} {c : Nat} (hc : c < 256) (w : World) : (callFunc f #[.string ⟨l.toArray⟩, .int .u8 (c : Int)]).run P w = .ok (.value (.int .i64 (idxB c l 0))) w := by
  rw [run_callFunc_extern hf hname hb hn he, run_indexByte_string]
  have hcc : ((c : Int).toNat.toUInt8).toNat = c := by simp; omega
  have : firstIdx ⟨l.toArray⟩ (c : Int).toNat.toUInt8 = idxB c l 0 := by
    have h1 := idxB_spec (c : Int).toNat.toUInt8 l 0
    rw [hcc] at h1
    rw [h1]
    unfold firstIdx
    rw [size_mk]
    simp only [get_mk, Nat.zero_add]
    rfl
  rw [this]
  rfl
theorem cmp_ok {f : FuncId} {fn : Func} (hf : P.funcs[f]? = some fn) (hname : (fn.name == "runtime.NumGoroutine") = false) (hb : fn.body.isNone = true) (hn : Extern.findNext fn = none) (he : Extern.find fn = some Extern.BytealgCompare.compare)
    {x y : List UInt8} (w : World) : (callFunc f #[.string ⟨x.toArray⟩, .string ⟨y.toArray⟩]).run P w = .ok (.value (.int .i64 (cmpB x y))) w := by
  rw [run_callFunc_extern hf hname hb hn he]
  have : Extern.BytealgCompare.cmp ⟨x.toArray⟩ ⟨y.toArray⟩ = cmpB x y := by
    rw [cmp_go]
    unfold Extern.BytealgCompare.cmp
    rw [size_mk, size_mk]
    simp only [get_mk]
    rfl
  rw [← this]
  rfl
end Go.Ai
