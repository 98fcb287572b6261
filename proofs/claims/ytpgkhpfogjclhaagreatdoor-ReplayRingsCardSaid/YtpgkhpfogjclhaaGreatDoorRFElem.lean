/- A part of the proof of the law ReplayRings. CONDITIONS: those that each theorem names. -/
import Derived.Test.YtpgkhpfogjclhaaGreatDoorRFSpec
/-! The elements of lists, as they are read. -/
namespace Go.Ai
open Go
theorem rd_low {h : Heap} {F b o n : Nat} {l : List AV} (hw : Wf ⟨h, F⟩) (hr : rdAB (hget h b) o n = some l) : b < ky F 0 := by
  obtain ⟨ab, e, hd⟩ := rdAB_ne hr
  exact hw b ab e hd
variable {h h1 : Heap} {F i : Nat} {a : AV} {L : List (List AV)}
theorem item_at (hw : Wf ⟨h, F⟩) (hl : LstP h ksI a L) (hs : SameH h h1) (hi : i < L.length) : ∃ b o eo cap s k n t, a = .slice b o eo L.length cap ∧ b < ky F 0 ∧ L[i] = [.str s, .int .i64 k, .int .i64 n, .str t] ∧ s.length ≤ maxLen ∧ t.length ≤ maxLen ∧
    rdAB (hget h1 b) (o + i * 4) 4 = some [.str s, .int .i64 k, .int .i64 n, .str t] ∧ rdAB (hget h1 b) (o + i * 4) 1 = some [.str s] ∧ rdAB (hget h1 b) (o + i * 4 + 1) 3 = some [.int .i64 k, .int .i64 n, .str t] := by
  obtain ⟨b, o, eo, cap, e, h0, hp⟩ := hl.at hi
  obtain ⟨s, k, n, t, el, hsl, htl⟩ := cks_I (hl.ok hi)
  rw [el] at h0 hp
  exact ⟨b, o, eo, cap, s, k, n, t, e, rd_low hw h0, el, hsl, htl, hs.rd h0, hs.rd (hp 0 1 (by decide)), hs.rd (hp 1 3 (by decide))⟩
theorem value_at (hw : Wf ⟨h, F⟩) (hl : LstP h ksV a L) (hs : SameH h h1) (hi : i < L.length) : ∃ b o eo cap k n t, a = .slice b o eo L.length cap ∧ b < ky F 0 ∧ L[i] = [.int .i64 k, .int .i64 n, .str t] ∧
    rdAB (hget h1 b) (o + i * 3) 3 = some [.int .i64 k, .int .i64 n, .str t] := by
  obtain ⟨b, o, eo, cap, e, h0, hp⟩ := hl.at hi
  obtain ⟨k, n, t, el, htl⟩ := cks_V (hl.ok hi)
  rw [el] at h0 hp
  exact ⟨b, o, eo, cap, k, n, t, e, rd_low hw h0, el, hs.rd h0⟩
theorem write_at (hw : Wf ⟨h, F⟩) (hl : LstP h ksW a L) (hs : SameH h h1) (hi : i < L.length) : ∃ b o eo cap s d k n t, a = .slice b o eo L.length cap ∧ b < ky F 0 ∧ L[i] = [.str s, .bool d, .int .i64 k, .int .i64 n, .str t] ∧
    rdAB (hget h1 b) (o + i * 5) 5 = some [.str s, .bool d, .int .i64 k, .int .i64 n, .str t] ∧ rdAB (hget h1 b) (o + i * 5) 1 = some [.str s] := by
  obtain ⟨b, o, eo, cap, e, h0, hp⟩ := hl.at hi
  obtain ⟨s, d, k, n, t, el⟩ := cks_W (hl.ok hi)
  rw [el] at h0 hp
  exact ⟨b, o, eo, cap, s, d, k, n, t, e, rd_low hw h0, el, hs.rd h0, hs.rd (hp 0 1 (by decide))⟩
theorem text_at (hw : Wf ⟨h, F⟩) (hl : LstP h ksT a L) (hs : SameH h h1) (hi : i < L.length) : ∃ b o eo cap s, a = .slice b o eo L.length cap ∧ b < ky F 0 ∧ L[i] = [.str s] ∧ rdAB (hget h1 b) (o + i * 1) 1 = some [.str s] := by
  obtain ⟨b, o, eo, cap, e, h0, hp⟩ := hl.at hi
  obtain ⟨s, el⟩ := cks_T (hl.ok hi)
  rw [el] at h0 hp
  exact ⟨b, o, eo, cap, s, e, rd_low hw h0, el, hs.rd h0⟩
theorem out_eq {v v' : AV} {s : St} (h : v = v') : Out.val v s = Out.val v' s := by rw [h]
theorem av_self_slice {b o eo n : Nat} {cap : Option Nat} : avEq (.slice b o eo n cap) (.slice b o eo n cap) = true := by simp [avEq]
theorem av_self_L {ks : List CK} (hl : LstP h ks a L) : avEq a a = true := by
  rcases hl.2.2 with ⟨rfl | rfl, _⟩ | ⟨b, o, eo, cap, rfl, _⟩
  · rfl
  · rfl
  · exact av_self_slice
theorem Kin_V {g : GetF} {l : List AV} (h : cksOk ksV l) : Kin g (.agg l) := by
  obtain ⟨k, n, t, rfl, _⟩ := cks_V h
  simp [Kin, Kins]
theorem clean_shape {l : List AV} (h : cksOk ksV l) : cksOk ksV (clean l) := by
  unfold clean
  split
  · exact h
  · exact ⟨_, _, rfl, ⟨rfl, by decide, by decide⟩, _, _, rfl, ⟨rfl, by decide, by decide⟩, _, _, rfl, by simp [ckOk], rfl⟩
theorem sameT {h : Heap} : SameH h h = True := eq_true (SameH.refl h)
theorem sameS {h h' : Heap} {F c : Nat} {b : AB} (hw : Wf ⟨h, F⟩) : SameH h (hset h' (ky F c) b) = SameH h h' := by
  apply propext
  constructor
  · intro hs i ab hi hd
    have := hs i ab hi hd
    have hl := hw i ab hi hd
    have hl2 := ky_le F c
    simp only at hl
    rw [hget_hset, if_neg (by omega)] at this
    exact this
  · intro hs; exact SameH.hset hw hs (ky_le _ _)
theorem rLen1_str {P : Program} {h : Heap} {t : TypeId} {s : List UInt8} : rLen1 P h t (some (.str s)) = lenA P t (.str s) := rfl
theorem rLen1_sl {P : Program} {h : Heap} {t : TypeId} {b o eo n : Nat} {cap : Option Nat} : rLen1 P h t (some (.slice b o eo n cap)) = lenA P t (.slice b o eo n cap) := rfl
end Go.Ai
