/- A part of the proof of the law ReconFresh. CONDITIONS: those that each theorem names. -/
import Derived.Test.YtneoghpfbgjaiaaGreatDoorG17
namespace Go.Proofs.YtneoghpfbgjaiaaGreatDoor
open Go Go.Ai
set_option maxRecDepth 100000

noncomputable def K10f : FuncId → List AV → St → Outs := fun f args s => match f, args with
  | 12, [] => some [.val (.bool true) s]
  | 22, [.agg [c1, c2, c3, c4, c5, c6, c7, re], .iface 226 (.agg [a2])] => match lstOf s.h ksI re, lstOf s.h ksI a2 with
    | some R, some L => some [.val (.bool (dec (freshP R L))) s]
    | _, _ => none
  | 22, [.agg _, .nili] => some [.val (.bool false) s]
  | 23, [.agg [c1, c2, c3, c4, c5, c6, c7, re], a2] => match lstOf s.h ksI re, lstOf s.h ksI a2 with
    | some R, some L => some [.val (.bool (dec (freshP R L))) s]
    | _, _ => none
  | 24, [.agg [c1, c2, c3, c4, c5, c6, c7, re], a2] => match lstOf s.h ksI re, lstOf s.h ksW a2 with
    | some R, some W => some [.val (.bool (dec (touchP R W))) s]
    | _, _ => none
  | 25, [.agg [c1, c2, c3, c4, c5, c6, c7, re], a2] => match lstOf s.h ksI re, lstOf s.h ksW a2 with
    | some R, some W => match Nat.ble R.length 1000, Nat.ble W.length 1000 with
      | true, true => some [.val (.bool (dec (touchP R W))) s]
      | _, _ => none
    | _, _ => none
  | 26, [.agg [.int .i64 x1, .int .u64 y1, .str n1, a, .int .i64 q1, r, v, p], .agg [.int .i64 x2, .int .u64 y2, .str n2, a2, .int .i64 q2, r2, v2, p2]] => match lstOf s.h ksV a, lstOf s.h ksV a2, lstOf s.h ksT r, lstOf s.h ksT r2, lstOf s.h ksT v, lstOf s.h ksT v2, lstOf s.h ksI p, lstOf s.h ksI p2 with
    | some A, some A2, some R, some R2, some V, some V2, some P, some P2 => some [.val (.bool (dec (passP x1 y1 q1 n1 A R V P x2 y2 q2 n2 A2 R2 V2 P2))) s]
    | _, _, _, _, _, _, _, _ => none
  | 18, [.agg [.int .i64 x1, .int .u64 y1, .str n1, a, .int .i64 q1, r, v, p], .agg [.int .i64 x2, .int .u64 y2, .str n2, a2, .int .i64 q2, r2, v2, p2]] => match lstOf s.h ksV a, lstOf s.h ksV a2, lstOf s.h ksT r, lstOf s.h ksT r2, lstOf s.h ksT v, lstOf s.h ksT v2, lstOf s.h ksI p, lstOf s.h ksI p2 with
    | some A, some A2, some R, some R2, some V, some V2, some P, some P2 => some [.val (.bool (dec (passP x1 y1 q1 n1 A R V P x2 y2 q2 n2 A2 R2 V2 P2))) s]
    | _, _, _, _, _, _, _, _ => none
  | _, _ => none
noncomputable def K10 : CallF := ⟨K10f, fun _ _ _ => none⟩
theorem k10_fn (f : FuncId) (args : List AV) (s : St) : CallF.fn K10 f args s = K10f f args s := rfl
theorem k10_ok : KOK Tryz.prog [] K10 := KOK.table fun f args s outs h => by
  obtain ⟨h0, F⟩ := s
  unfold K10f at h
  split at h
  · cases h; obtain ⟨_, hc⟩ := body12; exact snd_true x2_ok mixed noNum run12 Tryz.func12 hc _
  · split at h
    · rename_i h1 h2; cases h; exact fresh_ok _ _ _ _ _ _ _ _ _ _ _ (lstOf_p h1) _ _ (lstOf_p h2)
    · cases h
  · cases h; exact fresh_nil _ _ _
  · split at h
    · rename_i h1 h2; cases h; exact rfresh_ok _ _ _ _ _ _ _ _ _ _ _ (lstOf_p h1) _ _ (lstOf_p h2)
    · cases h
  · split at h
    · rename_i h1 h2; cases h; exact touched24 _ _ _ _ _ _ _ _ _ _ _ (lstOf_p h1) _ _ (lstOf_p h2)
    · cases h
  · split at h
    · rename_i h1 h2
      split at h
      · rename_i h3 h4; cases h; exact touched25 _ _ _ _ _ _ _ _ _ _ _ (lstOf_p h1) _ _ (lstOf_p h2) (Nat.le_of_ble_eq_true h3) (Nat.le_of_ble_eq_true h4)
      · cases h
    · cases h
  · split at h
    · rename_i h1 h2 h3 h4 h5 h6 h7 h8; cases h; exact equal26 _ _ _ _ _ _ _ _ _ _ _ _ _ _ _ _ _ _ _ _ _ _ _ _ _ _ (lstOf_p h1) (lstOf_p h2) (lstOf_p h3) (lstOf_p h4) (lstOf_p h5) (lstOf_p h6) (lstOf_p h7) (lstOf_p h8)
    · cases h
  · split at h
    · rename_i h1 h2 h3 h4 h5 h6 h7 h8; cases h; exact equal18 _ _ _ _ _ _ _ _ _ _ _ _ _ _ _ _ _ _ _ _ _ _ _ _ _ _ (lstOf_p h1) (lstOf_p h2) (lstOf_p h3) (lstOf_p h4) (lstOf_p h5) (lstOf_p h6) (lstOf_p h7) (lstOf_p h8)
    · cases h
  · cases h


end Go.Proofs.YtneoghpfbgjaiaaGreatDoor

