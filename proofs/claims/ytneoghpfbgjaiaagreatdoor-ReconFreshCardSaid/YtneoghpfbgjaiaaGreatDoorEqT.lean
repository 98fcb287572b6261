/- A part of the proof of the law ReconFresh. CONDITIONS: those that each theorem names. -/
import Derived.Test.YtneoghpfbgjaiaaGreatDoorK1
namespace Go.Proofs.YtneoghpfbgjaiaaGreatDoor
open Go Go.Ai
set_option maxRecDepth 100000
theorem eg115 : Tryz.prog.eqGuardType Tryz.prog.depth 115 = false := by kernel_rfl
theorem eg117 : Tryz.prog.eqGuardType Tryz.prog.depth 117 = false := by kernel_rfl
theorem si115 : Tryz.prog.stoodInHeld 115 = false := by kernel_rfl
theorem si117 : Tryz.prog.stoodInHeld 117 = false := by kernel_rfl
theorem eq_int {P : Program} {d t : Nat} {kk k : IntKind} {a b : Int} (hu : P.underlying t = some (.int kk)) : eqIn P (d + 1) t (.int k a) (.int k b) = some (a == b) := by
  unfold eqIn; simp [hu]
theorem eq_str {P : Program} {d t : Nat} {a b : List UInt8} (hu : P.underlying t = some .string) : eqIn P (d + 1) t (.str a) (.str b) = some (a == b) := by
  unfold eqIn; simp [hu]
theorem eq_struct {P : Program} {d t : Nat} {fs : Array Field} {xs ys : List AV} (hu : P.underlying t = some (.struct fs)) (hs : P.stoodInHeld t = false) : eqIn P (d + 1) t (.agg xs) (.agg ys) = eqFs P (eqIn P d) xs ys fs.toList := by
  unfold eqIn; simp [hu, hs]
theorem eqV (d : Nat) (k n k' n' : Int) (t t' : List UInt8) : eqIn Tryz.prog (d + 2) 115 (.agg [.int .i64 k, .int .i64 n, .str t]) (.agg [.int .i64 k', .int .i64 n', .str t']) = some (dec ([AV.int .i64 k, .int .i64 n, .str t] = [.int .i64 k', .int .i64 n', .str t'])) := by
  rw [eq_struct Tryz.underlying115 si115]
  simp only [eqFs, partA, ag3, ag2, ag9, List.getElem?_cons_zero, List.getElem?_cons_succ, eq_int Tryz.underlying3, eq_int Tryz.underlying2, eq_str Tryz.underlying9]
  simp only [String.reduceBEq]
  cases h1 : k == k' <;> cases h2 : n == n' <;> cases h3 : t == t' <;> simp_all [dec]
theorem eqI (d : Nat) (s s' : List UInt8) (k n k' n' : Int) (t t' : List UInt8) : eqIn Tryz.prog (d + 3) 117 (.agg [.str s, .int .i64 k, .int .i64 n, .str t]) (.agg [.str s', .int .i64 k', .int .i64 n', .str t']) = some (dec ([AV.str s, .int .i64 k, .int .i64 n, .str t] = [.str s', .int .i64 k', .int .i64 n', .str t'])) := by
  rw [eq_struct Tryz.underlying117 si117]
  simp only [eqFs, partA, ag115, ag9, sz115, List.getElem?_cons_zero, eq_str Tryz.underlying9, List.drop_succ_cons, List.drop_zero, List.take_succ_cons, List.take_zero, eqV]
  simp only [String.reduceBEq]
  cases h1 : s == s' <;> cases h2 : k == k' <;> cases h3 : n == n' <;> cases h4 : t == t' <;> simp_all [dec]
theorem eqV100 (k n k' n' : Int) (t t' : List UInt8) : eqIn Tryz.prog 100 115 (.agg [.int .i64 k, .int .i64 n, .str t]) (.agg [.int .i64 k', .int .i64 n', .str t']) = some (dec ([AV.int .i64 k, .int .i64 n, .str t] = [.int .i64 k', .int .i64 n', .str t'])) := eqV 98 _ _ _ _ _ _
theorem eqI100 (s s' : List UInt8) (k n k' n' : Int) (t t' : List UInt8) : eqIn Tryz.prog 100 117 (.agg [.str s, .int .i64 k, .int .i64 n, .str t]) (.agg [.str s', .int .i64 k', .int .i64 n', .str t']) = some (dec ([AV.str s, .int .i64 k, .int .i64 n, .str t] = [.str s', .int .i64 k', .int .i64 n', .str t'])) := eqI 97 _ _ _ _ _ _ _ _
end Go.Proofs.YtneoghpfbgjaiaaGreatDoor
