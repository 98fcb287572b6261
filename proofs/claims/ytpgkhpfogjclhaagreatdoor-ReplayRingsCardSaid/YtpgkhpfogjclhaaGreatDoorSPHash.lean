/- A part of the proof of the law ReplayRings. CONDITIONS: those that each theorem names. -/
import Derived.Test.YtpgkhpfogjclhaaGreatDoorSPBack
/-! The partition of a key. -/
namespace Go.Ai
open Go
variable {P : Program}
theorem wrapU (n : Int) : IntKind.u64.wrap n = n % 18446744073709551616 := by simp [IntKind.wrap, IntKind.bits, IntKind.signed]
theorem wrapI_in {n : Int} (h0 : 0 ≤ n) (h1 : n < 9223372036854775808) : IntKind.i64.wrap n = n := by
  have : IntKind.i64.wrap n = if n % 18446744073709551616 ≥ 9223372036854775808 then n % 18446744073709551616 - 18446744073709551616 else n % 18446744073709551616 := by simp [IntKind.wrap, IntKind.bits, IntKind.signed]
  rw [this]
  split <;> omega
/-- a number that the kernel doesn't look into -/
noncomputable def lock (x : Int) : Int := Classical.choose (⟨x, rfl⟩ : ∃ y, y = x)
theorem lock_eq (x : Int) : lock x = x := Classical.choose_spec (⟨x, rfl⟩ : ∃ y, y = x)
noncomputable def xorU (a b : Int) : Int := lock (IntKind.u64.wrap ((BitVec.ofInt 64 a ^^^ BitVec.ofInt 64 b).toNat : Int))
noncomputable def mulU (a b : Int) : Int := lock (IntKind.u64.wrap (a * b))
noncomputable def remU (a b : Int) : Int := lock (a.tmod b)
noncomputable def wrapL (k : IntKind) (n : Int) : Int := lock (k.wrap n)
theorem intOp_xor {t : TypeId} {a b : Int} : intOp P .xor t .u64 .u64 a b = some (.int .u64 (xorU a b)) := by
  have e : intOp P .xor t .u64 .u64 a b = some (.int .u64 (IntKind.u64.wrap ((BitVec.ofInt 64 a ^^^ BitVec.ofInt 64 b).toNat : Int))) := rfl
  rw [e, xorU, lock_eq]
theorem intOp_mul {t : TypeId} {a b : Int} : intOp P .mul t .u64 .u64 a b = some (.int .u64 (mulU a b)) := by
  rw [mulU, lock_eq]
  simp [intOp, binOp, runP, ofS, Op.intArith, pure]
theorem intOp_rem {t : TypeId} {a b : Int} (h : b ≠ 0) : intOp P .rem t .u64 .u64 a b = some (.int .u64 (remU a b)) := by
  rw [remU, lock_eq]
  simp [intOp, binOp, runP, ofS, Op.intDiv, pure, h]
noncomputable def hstep (h : Int) (c : UInt8) : Int := mulU (xorU h (wrapL .u64 (c.toNat : Int))) 1099511628211
noncomputable def hashI (s : List UInt8) : Int := lock (s.foldl hstep 14695981039346656037)
noncomputable def hashP (s : List UInt8) (i : Nat) : Int := lock ((s.take i).foldl hstep 14695981039346656037)
theorem hashP_0 (s : List UInt8) : hashP s 0 = 14695981039346656037 := by
  rw [hashP, lock_eq, List.take_zero, List.foldl_nil]
theorem hashP_succ {s : List UInt8} {i : Nat} (hi : i < s.length) : hashP s (i + 1) = mulU (xorU (hashP s i) (wrapL .u64 (s[i].toNat : Int))) 1099511628211 := by
  rw [hashP, hashP, lock_eq, lock_eq, List.take_succ_eq_append_getElem hi, List.foldl_append]; rfl
theorem hashP_all (s : List UInt8) : hashP s s.length = hashI s := by rw [hashP, List.take_length]; rfl
theorem hash_pos (s : List UInt8) : 0 ≤ hashI s := by
  suffices h : ∀ (s : List UInt8) (a : Int), 0 ≤ a → 0 ≤ s.foldl hstep a by rw [hashI, lock_eq]; exact h s _ (by decide)
  intro s
  induction s with
  | nil => exact fun a h => h
  | cons c s ih => exact fun a _ => ih _ (by unfold hstep; rw [mulU, lock_eq, wrapU]; exact Int.emod_nonneg _ (by decide))
noncomputable def partI (s : List UInt8) (n : Int) : Int := wrapL .i64 (remU (hashI s) (wrapL .u64 n))
theorem wrapU_in {n : Int} (h1 : 1 ≤ n) (h2 : n ≤ 1000000) : wrapL .u64 n = n := by rw [wrapL, lock_eq, wrapU]; exact Int.emod_eq_of_lt (by omega) (by omega)
theorem partI_lt (s : List UInt8) {n : Int} (h1 : 1 ≤ n) (h2 : n ≤ 1000000) : 0 ≤ partI s n ∧ partI s n < n := by
  unfold partI
  rw [wrapU_in h1 h2, remU, lock_eq, wrapL, lock_eq]
  have a1 : 0 ≤ (hashI s).tmod n := Int.tmod_nonneg _ (hash_pos s)
  have a2 : (hashI s).tmod n < n := Int.tmod_lt_of_pos _ (by omega)
  rw [wrapI_in a1 (by omega)]
  exact ⟨a1, a2⟩
noncomputable def partOf (n : Int) (l : List AV) : Int := match l with
  | [.str s] => partI s n
  | _ => 0
noncomputable def parts (n : Int) (L : List (List AV)) : List Int := L.map (partOf n)
theorem parts_len (n : Int) (L : List (List AV)) : (parts n L).length = L.length := by simp [parts]
theorem parts_lt {n : Int} (h1 : 1 ≤ n) (h2 : n ≤ 1000000) (L : List (List AV)) : ∀ z ∈ parts n L, 0 ≤ z ∧ z < (n.toNat : Int) := by
  intro z hz
  obtain ⟨l, _, rfl⟩ := List.mem_map.1 hz
  have e : (n.toNat : Int) = n := by omega
  rw [e]
  unfold partOf
  split
  · exact partI_lt _ h1 h2
  · omega
end Go.Ai
