/- A part of the proof of the law ReconFresh. CONDITIONS: those that each theorem names. -/
import Derived.Test.YtneoghpfbgjaiaaGreatDoorG15
import Derived.Test.YtneoghpfbgjaiaaGreatDoorRFPoint
namespace Go.Proofs.YtneoghpfbgjaiaaGreatDoor
open Go Go.Ai
set_option maxRecDepth 100000
theorem by117 : bytesT Tryz.prog 117 = some 48 := by kernel_rfl
theorem zo117 : zeroOk Tryz.prog 117 4 48 = true := by kernel_rfl
theorem nBS27 (key : Nat) : nBS Tryz.prog key 0 (Tryz.prog.underlying 27) (some []) = some (.slice key 0 0 0 (some 0), mkRow [] 4) := by
  simp only [nBS, Tryz.underlying27, sz117, zr117, nBS2, Nat.zero_mul, AV.cells, List.length_cons, List.length_nil, repl, buildArr, nBS3, rowOf_mk]
  rfl
theorem append_L0 {key id : Nat} {s : St} {a : AV} (hl : LstP s.h ksI a []) : appendA Tryz.prog 27 27 key s (.slice id 0 0 0 (some 0)) a = some (.slice id 0 0 0 (some 0), s) := by
  have hs := src_none (ks := ksI) hl
  simp only [List.length_cons, List.length_nil, Nat.reduceAdd] at hs
  have hble : Nat.ble ((2 * (0 + 0) + 1024) * 48) 281474976710656 = true := by rw [Nat.ble_eq]; omega
  simp only [appendA, Tryz.underlying27, sz117, by117, zo117, hs]
theorem append_L1 {key id : Nat} {s : St} {a : AV} {L : List (List AV)} (hl : LstP s.h ksI a L) (hp : 0 < L.length) (h3 : L.length ≤ 1000) (hrow : hget s.h id = some (mkRow [] 4)) :
    appendA Tryz.prog 27 27 key s (.slice id 0 0 0 (some 0)) a = some (.slice key 0 0 L.length none, s.upd key (mkRow L.flatten 4)) := by
  have hs := src_L (ks := ksI) hl hp
  simp only [List.length_cons, List.length_nil, Nat.reduceAdd] at hs
  obtain ⟨n, hn⟩ : ∃ n, L.length = n + 1 := ⟨L.length - 1, by omega⟩
  rw [hn] at hs ⊢
  have hble : Nat.ble ((2 * (0 + (n + 1)) + 1024) * 48) 281474976710656 = true := by
    rw [Nat.ble_eq]; omega
  have h0 : readCells s.h id 0 (0 * 4) = some [] := by rw [readCells_eq, hrow, Nat.zero_mul, rdAB_row]; rfl
  have h1 : Nat.ble (n + 1) 0 = false := rfl
  simp only [appendA, Tryz.underlying27, sz117, by117, zo117, hs, hble, hrow, mkRow]
  simp only [h1, h0, List.nil_append, rowOf_mk, Nat.zero_add, mkRow]
end Go.Proofs.YtneoghpfbgjaiaaGreatDoor
