/- A part of the proof of the law ShardParts. CONDITIONS: those that each theorem names. -/
import Derived.Test.YtdcindnnbmilaaaGreatDoorP1
import Derived.Test.YtdcindnnbmilaaaGreatDoorSPLay
/-! The sort's table; numbers in a new list. -/
namespace Go.Proofs.YtdcindnnbmilaaaGreatDoor
open Go Go.Ai
set_option maxRecDepth 100000
def okZ (zs : List Int) : Prop := 0 < zs.length ∧ zs.length ≤ 1000000
theorem okZ_sorted {zs : List Int} (h : okZ zs) : okZ (sorted zs) := by unfold okZ; rw [sorted_len]; exact h
noncomputable def padded (zs : List Int) : List Int := Lib.compact zs ++ List.replicate (zs.length - (Lib.compact zs).length) 0
noncomputable def KSf : FuncId → List AV → St → Outs := fun f args z => match f, args with
  | 40, [.nils] => some [.val (.tup []) z]
  | 41, [.nils] => some [.val .nils z]
  | 40, [.slice k 0 0 m none] => match rowInts (hget z.h k) with
    | some zs => open Classical in if m = zs.length ∧ okZ zs then some [.val (.tup []) ⟨hset z.h k (mkRow (ints (sorted zs)) 1), z.fc⟩] else none
    | none => none
  | 41, [.slice k 0 0 m none] => match rowInts (hget z.h k) with
    | some zs => open Classical in if m = zs.length ∧ okZ zs then some [.val (.slice k 0 0 (Lib.compact zs).length none) ⟨hset z.h k (mkRow (ints (padded zs)) 1), z.fc⟩] else none
    | none => none
  | f, args => KPf f args z
noncomputable def KS : CallF := ⟨KSf, fun _ _ _ => none⟩
theorem ks_fn (f : FuncId) (args : List AV) (s : St) : CallF.fn KS f args s = KSf f args s := rfl
theorem rowInts_mk (zs : List Int) : rowInts (some (mkRow (ints zs) 1)) = some zs := rowInts_eq rfl
theorem body40 : ∃ c, Tryz.f40.body = some c := Option.isSome_iff_exists.1 (by kernel_rfl)
theorem body41 : ∃ c, Tryz.f41.body = some c := Option.isSome_iff_exists.1 (by kernel_rfl)
theorem args_nils {ρ : Map} {vs : List Value} (h : RVs ρ [.nils] vs) : vs = [.slice none 0 0] := by
  obtain ⟨v, vs', h1, h2, rfl⟩ := h
  simp only [RV] at h1
  simp only [RVs] at h2
  subst h1 h2
  rfl
theorem ks_ok : KOK Tryz.prog [] KS := KOK.table fun f args s outs h => by
  obtain ⟨h0, F⟩ := s
  obtain ⟨_, b40⟩ := body40
  obtain ⟨_, b41⟩ := body41
  unfold KSf at h
  split at h
  · cases h; exact snd_calls noNum Tryz.func40 b40 (fun _ _ => args_nils) (fun ρ => ⟨[], rfl, rfl⟩) (none40 none 0)
  · cases h; exact snd_calls noNum Tryz.func41 b41 (fun _ _ => args_nils) (fun ρ => rfl) (none41 none 0)
  · split at h
    · rename_i hz
      split at h
      · rename_i hc
        obtain ⟨rfl, hp, hm⟩ := hc
        cases h
        exact snd_sort noNum Tryz.func40 b40 sort40 (rowInts_p hz) hp hm
      · cases h
    · cases h
  · split at h
    · rename_i hz
      split at h
      · rename_i hc
        obtain ⟨rfl, hp, hm⟩ := hc
        cases h
        exact snd_compact noNum Tryz.func41 b41 comp41 (rowInts_p hz) hp hm
      · cases h
    · cases h
  · exact kp_ok.fn _ _ _ _ h
theorem same_kill2 {h0 h h1 : Heap} {F lc : Nat} {l : AV} {zs : List Int} (hw : Wf ⟨h0, F⟩) (hi : IL h1 F lc l zs) (hs : SameH h0 h) : SameH h0 (kill h l) := by
  rcases hi with ⟨rfl, _⟩ | ⟨_, c, _, rfl, _⟩
  · exact hs
  · exact SameH.hset hw hs (ky_le F c)
theorem IL.new' {h : Heap} {F lc c : Nat} {zs ys : List Int} {x : Int} (hl : c < lc) (he : ys = zs ++ [x]) : IL (hset h (ky F c) (mkRow (ints (zs ++ [x])) 1)) F lc (.slice (ky F c) 0 0 (zs ++ [x]).length none) ys := by
  subst he
  exact IL.new hl (by rw [List.length_append]; exact Nat.succ_pos _)
theorem parts_step {n : Int} {R : List (List AV)} {i : Nat} (hi : i < R.length) {s : List UInt8} (e : R[i] = [.str s]) : parts n (R.take (i + 1)) = parts n (R.take i) ++ [partI s n] := by
  unfold parts; rw [List.take_succ_eq_append_getElem hi, List.map_append, e]; rfl
theorem by3 : bytesT Tryz.prog 3 = some 8 := by kernel_rfl
theorem zo3 : zeroOk Tryz.prog 3 1 8 = true := by kernel_rfl
theorem nBS27 (key : Nat) (x : Int) : nBS Tryz.prog key 1 (some (.slice 3)) (some [(0, .int .i64 x)]) = some (.slice key 0 0 1 (some 1), mkRow [.int .i64 x] 1) := by
  simp only [nBS, sz3, zr3, nBS2, Nat.one_mul, AV.cells, List.length_cons, List.length_nil, repl, buildArr, nBS3, rowOf_mk]
  rfl
theorem parts_take {n : Int} {R : List (List AV)} {i : Nat} (hi : i < R.length) : parts n (R.take (i + 1)) = parts n (R.take i) ++ [partOf n R[i]] := by
  unfold parts; rw [List.take_succ_eq_append_getElem hi, List.map_append]; rfl
theorem parts_all {n : Int} {R : List (List AV)} : parts n (R.take R.length) = parts n R := by rw [List.take_length]
theorem parts_tl {n : Int} {R : List (List AV)} {i : Nat} (h : R.length ≤ 1000) : (parts n (R.take i)).length ≤ 1000 := by rw [parts_len, List.length_take]; omega
theorem app27 {key F lc f a : Nat} {h : Heap} {l : AV} {zs : List Int} {x : Int} (hi : IL h F lc l zs) (hn : zs.length ≤ 1000) {cap : Option Nat} :
    appendA Tryz.prog 27 27 key ⟨hset h (ky F (lc + a)) (mkRow [.int .i64 x] 1), f⟩ l (.slice (ky F (lc + a)) 0 0 1 cap) = some (.slice key 0 0 (zs ++ [x]).length none, ⟨hset (kill (hset h (ky F (lc + a)) (mkRow [.int .i64 x] 1)) l) key (mkRow (ints (zs ++ [x])) 1), f⟩) :=
  app_ints Tryz.underlying27 Tryz.underlying27 sz3 by3 zo3 (by omega) hi (by omega) hn
theorem app27b {key F lc f a b : Nat} {h : Heap} {l : AV} {zs : List Int} {x : Int} (hi : IL h F lc l zs) (hn : zs.length ≤ 1000) {cap : Option Nat} :
    appendA Tryz.prog 27 27 key ⟨hset h (ky F (lc + a + b)) (mkRow [.int .i64 x] 1), f⟩ l (.slice (ky F (lc + a + b)) 0 0 1 cap) = some (.slice key 0 0 (zs ++ [x]).length none, ⟨hset (kill (hset h (ky F (lc + a + b)) (mkRow [.int .i64 x] 1)) l) key (mkRow (ints (zs ++ [x])) 1), f⟩) := by
  rw [Nat.add_assoc]; exact app27 hi hn
end Go.Proofs.YtdcindnnbmilaaaGreatDoor
