/- A part of the proof of the law ShardParts. CONDITIONS: those that each theorem names. -/
import Derived.Test.YtdcindnnbmilaaaGreatDoorP10
import Derived.Test.YtdcindnnbmilaaaGreatDoorSPLive
namespace Go.Proofs.YtdcindnnbmilaaaGreatDoor
open Go Go.Ai
set_option maxRecDepth 100000

theorem belowP_pos {n : Int} (hn : okN n) {L : List (List AV)} (hp : 0 < L.length) : 0 < (belowP n L).length := by
  have := ofZ_pos hn hp
  rw [ofZ_eq hn] at this
  exact this
theorem belowP_none {n : Int} {L : List (List AV)} (hp : ¬ 0 < L.length) : ¬ 0 < (belowP n L).length := by
  have e : L = [] := List.length_eq_zero_iff.1 (by omega)
  subst e
  have : belowP n [] = [] := List.filter_eq_nil_iff.2 fun x _ => by simp [parts]
  rw [this]; simp
theorem partsZ_eq {n : Int} (hn : okN n) (L : List (List AV)) : partsZ n L = refZ n L := by
  unfold partsZ refZ
  by_cases hp : 0 < L.length
  · rw [if_pos hp, if_pos (belowP_pos hn hp), ofZ_eq hn]; rfl
  · rw [if_neg hp, if_neg (belowP_none hp)]
theorem padded_take (zs : List Int) : (padded zs).take (Lib.compact zs).length = Lib.compact zs := by
  unfold padded
  rw [List.take_append_of_le_length (Nat.le_refl _), List.take_length]
theorem rowZ_take (n : Int) (L : List (List AV)) : (rowZ n L).take (partsZ n L).length = partsZ n L := by
  unfold rowZ partsZ
  by_cases hp : 0 < L.length
  · rw [if_pos hp, if_pos hp]; exact padded_take _
  · rw [if_neg hp, if_neg hp]; rfl
theorem take_one {a b : List Int} {m : Nat} (h : a.take m = b) (hm : 1 ≤ m) : a.take 1 = b.take 1 := by
  subst h
  rw [List.take_take]
  congr 1
  omega
theorem act_eq {n : Int} (hn : okN n) (A B : List (List AV)) : (actR n A B).take (actM n A B) = (racR n A B).take (racM n A B) := by
  unfold actR actM racR racM
  by_cases hp : 0 < B.length
  · have h2 := belowP_pos hn hp
    rw [if_pos hp, if_pos hp, if_pos h2, if_pos h2, List.take_length]
    show (padded (sorted (parts n B))).take (Lib.compact (sorted (parts n B))).length = _
    rw [padded_take]
    exact ofZ_eq hn B
  · have h2 := belowP_none (n := n) hp
    rw [if_neg hp, if_neg hp, if_neg h2, if_neg h2]
    rw [take_one (rowZ_take n (A ++ B)) (partsZ_pos hn _), partsZ_eq hn]
theorem below_in {n : Int} (hn3 : n ≤ 1000) (L : List (List AV)) : ∀ z ∈ belowP n L, 0 ≤ z ∧ z ≤ 1000 := by
  intro z hz
  have hz := (List.mem_filter.1 hz).1
  obtain ⟨i, hi, rfl⟩ := List.mem_map.1 hz
  have := List.mem_range.1 hi
  exact ⟨Int.natCast_nonneg i, by show (i : Int) ≤ 1000; omega⟩
theorem refZ_in {n : Int} (hn3 : n ≤ 1000) (L : List (List AV)) : ∀ z ∈ refZ n L, 0 ≤ z ∧ z ≤ 1000 := by
  unfold refZ
  split
  · exact below_in hn3 L
  · intro z hz; cases List.mem_singleton.1 hz; omega
theorem racR_in {n : Int} (hn3 : n ≤ 1000) (A B : List (List AV)) : ∀ z ∈ racR n A B, 0 ≤ z ∧ z ≤ 1000 := by
  unfold racR
  split
  · exact below_in hn3 B
  · exact refZ_in hn3 _
theorem refZ_len {n : Int} (hn3 : n ≤ 1000) (L : List (List AV)) : (refZ n L).length ≤ 1000 := by
  unfold refZ
  split
  · exact Nat.le_trans (below_len _ _) (by omega)
  · simp
theorem lst_row {h : Heap} {k m : Nat} {c : Option Nat} {Y zs : List Int} (hg : hget h k = some (mkRow (ints Y) 1)) (ht : Y.take m = zs) (hl : zs.length = m) (hr : ∀ z ∈ zs, 0 ≤ z ∧ z ≤ 1000) (hm : m ≤ 1000) : LstP h ksN (.slice k 0 0 m c) (iL zs) := by
  have mxl : maxLen = 9223372036854775807 := by decide
  refine ⟨fun l hl => ?_, by rw [iL_len]; omega, .inr ⟨k, 0, 0, c, by rw [iL_len, hl], fun _ => ?_⟩⟩
  · obtain ⟨z, hz, rfl⟩ := List.mem_map.1 hl
    have h1 := hr z hz
    refine ⟨_, _, rfl, ⟨rfl, ?_, ?_⟩, rfl⟩
    · show -(2 ^ (64 - 1) : Int) ≤ z; omega
    · show z ≤ (2 ^ (64 - 1) : Int) - 1; omega
  · have hY : m ≤ Y.length := by rw [← ht, List.length_take] at hl; omega
    rw [hg, iL_len, iL_flat, hl, rdAB_row]
    simp only [List.length_cons, List.length_nil]
    rw [if_pos (by rw [ints_len]; omega), List.drop_zero]
    subst ht
    simp only [ints, Nat.zero_add, Nat.mul_one, List.map_take]
theorem nk_ne {F : Nat} : nk (F + 1) ≠ nk (F + 1 + 1) := by rw [nk_eq, nk_eq]; unfold ky; omega
/-- two lists that are equal, in two new blocks -/
theorem eq_two {H : Heap} {F m m' : Nat} {c c' : Option Nat} {Y Y' : List Int} (h : Y.take m = Y'.take m') (hl : (Y.take m).length = m) (hl' : (Y'.take m').length = m') (hr : ∀ z ∈ Y'.take m', 0 ≤ z ∧ z ≤ 1000) (hm : m' ≤ 1000) :
    ∃ zs, LstP (hset (hset H (nk (F + 1)) (mkRow (ints Y) 1)) (nk (F + 1 + 1)) (mkRow (ints Y') 1)) ksN (.slice (nk (F + 1)) 0 0 m c) (iL zs) ∧ LstP (hset (hset H (nk (F + 1)) (mkRow (ints Y) 1)) (nk (F + 1 + 1)) (mkRow (ints Y') 1)) ksN (.slice (nk (F + 1 + 1)) 0 0 m' c') (iL zs) := by
  have e : m = m' := by rw [← hl, ← hl', h]
  subst e
  refine ⟨Y'.take m, lst_row ?_ h hl' hr hm, lst_row ?_ rfl hl' hr hm⟩
  · rw [hget_hset, if_neg nk_ne, hget_hset, if_pos rfl]
  · rw [hget_hset, if_pos rfl]
theorem eq_parts {H : Heap} {F : Nat} {n : Int} (hn : okN n) (hn3 : n ≤ 1000) {c c' : Option Nat} (L : List (List AV)) :
    ∃ zs, LstP (hset (hset H (nk (F + 1)) (mkRow (ints (rowZ n L)) 1)) (nk (F + 1 + 1)) (mkRow (ints (refZ n L)) 1)) ksN (.slice (nk (F + 1)) 0 0 (partsZ n L).length c) (iL zs) ∧ LstP (hset (hset H (nk (F + 1)) (mkRow (ints (rowZ n L)) 1)) (nk (F + 1 + 1)) (mkRow (ints (refZ n L)) 1)) ksN (.slice (nk (F + 1 + 1)) 0 0 (refZ n L).length c') (iL zs) :=
  eq_two (by rw [rowZ_take, List.take_length, partsZ_eq hn]) (by rw [rowZ_take]) (by rw [List.take_length]) (by rw [List.take_length]; exact refZ_in hn3 L) (refZ_len hn3 L)
theorem racM_len (n : Int) (A B : List (List AV)) : ((racR n A B).take (racM n A B)).length = racM n A B := by
  unfold racR racM
  split
  · rw [List.take_length]
  · have := refZ_pos n (A ++ B)
    rw [List.length_take]; omega
theorem racM_le {n : Int} (hn3 : n ≤ 1000) (A B : List (List AV)) : racM n A B ≤ 1000 := by
  unfold racM
  split
  · exact Nat.le_trans (below_len _ _) (by omega)
  · omega
theorem actM_len {n : Int} (hn : okN n) (A B : List (List AV)) : ((actR n A B).take (actM n A B)).length = actM n A B := by
  unfold actR actM
  split
  · show ((padded (sorted (parts n B))).take (Lib.compact (sorted (parts n B))).length).length = _
    rw [padded_take]; rfl
  · rw [take_one (rowZ_take n (A ++ B)) (partsZ_pos hn _)]
    have := partsZ_pos hn (A ++ B)
    rw [List.length_take]; omega
theorem eq_acts {H : Heap} {F : Nat} {n : Int} (hn : okN n) (hn3 : n ≤ 1000) {c c' : Option Nat} (A B : List (List AV)) :
    ∃ zs, LstP (hset (hset H (nk (F + 1)) (mkRow (ints (actR n A B)) 1)) (nk (F + 1 + 1)) (mkRow (ints (racR n A B)) 1)) ksN (.slice (nk (F + 1)) 0 0 (actM n A B) c) (iL zs) ∧ LstP (hset (hset H (nk (F + 1)) (mkRow (ints (actR n A B)) 1)) (nk (F + 1 + 1)) (mkRow (ints (racR n A B)) 1)) ksN (.slice (nk (F + 1 + 1)) 0 0 (racM n A B) c') (iL zs) :=
  eq_two (act_eq hn A B) (actM_len hn A B) (racM_len n A B) (fun z hz => racR_in hn3 A B z (List.mem_of_mem_take hz)) (racM_le hn3 A B)
theorem eq_nils (H : Heap) : ∃ zs, LstP H ksN .nils (iL zs) ∧ LstP H ksN .nils (iL zs) := ⟨[], ⟨by simp [iL], by simp [iL], .inl ⟨rfl, rfl⟩⟩, ⟨by simp [iL], by simp [iL], .inl ⟨rfl, rfl⟩⟩⟩

noncomputable def KLf : FuncId → List AV → St → Outs := fun f args z => match f, args with
  | 6, [.agg [ra, rb], .int .i64 n] => match lstOf z.h ksT ra, lstOf z.h ksT rb with
    | some A, some B => open Classical in if n ≤ 1000 ∧ A.length + B.length ≤ 1000 then (if okN n then some [.val (.slice (nk z.fc) 0 0 (partsZ n (A ++ B)).length (capZ (A ++ B))) ⟨hset z.h (nk z.fc) (mkRow (ints (rowZ n (A ++ B))) 1), z.fc + 1⟩] else some [.val .nils z]) else none
    | _, _ => none
  | 7, [.agg [ra, rb], .int .i64 n] => match lstOf z.h ksT ra, lstOf z.h ksT rb with
    | some A, some B => open Classical in if n ≤ 1000 ∧ A.length + B.length ≤ 1000 then (if okN n then some [.val (.slice (nk z.fc) 0 0 (refZ n (A ++ B)).length (refC n (A ++ B))) ⟨hset z.h (nk z.fc) (mkRow (ints (refZ n (A ++ B))) 1), z.fc + 1⟩] else some [.val .nils z]) else none
    | _, _ => none
  | 8, [.agg [ra, rb], .int .i64 n] => match lstOf z.h ksT ra, lstOf z.h ksT rb with
    | some A, some B => open Classical in if n ≤ 1000 ∧ A.length + B.length ≤ 1000 then (if okN n then some [.val (.slice (nk z.fc) 0 0 (actM n A B) (actC A B)) ⟨hset z.h (nk z.fc) (mkRow (ints (actR n A B)) 1), z.fc + 1⟩] else some [.val .nils z]) else none
    | _, _ => none
  | 9, [.agg [ra, rb], .int .i64 n] => match lstOf z.h ksT ra, lstOf z.h ksT rb with
    | some A, some B => open Classical in if n ≤ 1000 ∧ A.length + B.length ≤ 1000 then (if okN n then some [.val (.slice (nk z.fc) 0 0 (racM n A B) (racC n A B)) ⟨hset z.h (nk z.fc) (mkRow (ints (racR n A B)) 1), z.fc + 1⟩] else some [.val .nils z]) else none
    | _, _ => none
  | 5, [a, b] => open Classical in if ∃ zs, LstP z.h ksN a (iL zs) ∧ LstP z.h ksN b (iL zs) then some [.val (.bool true) z] else none
  | 4, [] => some [.val (.bool true) z]
  | _, _ => none
noncomputable def KL : CallF := ⟨KLf, fun _ _ _ => none⟩
theorem kl_fn (f : FuncId) (args : List AV) (s : St) : CallF.fn KL f args s = KLf f args s := rfl
theorem kl_ok : KOK Tryz.prog [] KL := KOK.table fun f args s outs h => by
  obtain ⟨h0, F⟩ := s
  unfold KLf at h
  split at h
  · split at h
    · rename_i hA hB
      have hA := lstOf_p hA
      have hB := lstOf_p hB
      split at h
      · rename_i hc
        split at h
        · rename_i hn
          cases h
          rw [nk_eq]
          exact parts6z _ _ _ _ _ _ hA hB _ hn hc.2
        · rename_i hn
          cases h
          exact parts6c _ _ _ _ _ (n_lt hn (by omega))
      · cases h
    · cases h
  · split at h
    · rename_i hA hB
      have hA := lstOf_p hA
      have hB := lstOf_p hB
      split at h
      · rename_i hc
        split at h
        · rename_i hn
          cases h
          rw [nk_eq]
          exact ref7z _ _ _ _ _ _ hA hB _ hn hc.1 hc.2
        · rename_i hn
          cases h
          exact ref7c _ _ _ _ _ (n_lt hn (by omega))
      · cases h
    · cases h
  · split at h
    · rename_i hA hB
      have hA := lstOf_p hA
      have hB := lstOf_p hB
      split at h
      · rename_i hc
        split at h
        · rename_i hn
          cases h
          rw [nk_eq]
          exact act8z _ _ _ _ _ _ hA hB _ hn hc.2
        · rename_i hn
          cases h
          exact act8c _ _ _ _ _ (n_lt hn (by omega))
      · cases h
    · cases h
  · split at h
    · rename_i hA hB
      have hA := lstOf_p hA
      have hB := lstOf_p hB
      split at h
      · rename_i hc
        split at h
        · rename_i hn
          cases h
          rw [nk_eq]
          exact rac9z _ _ _ _ _ _ hA hB _ hn hc.1 hc.2
        · rename_i hn
          cases h
          exact rac9c _ _ _ _ _ (n_lt hn (by omega))
      · cases h
    · cases h
  · split at h
    · rename_i hc
      obtain ⟨zs, h1, h2⟩ := hc
      cases h
      exact ints5 _ _ _ _ zs h1 h2
    · cases h
  · cases h
    obtain ⟨_, hb⟩ := body4
    exact snd_true x2_ok mixed noNum run4 Tryz.func4 hb _
  · cases h


end Go.Proofs.YtdcindnnbmilaaaGreatDoor

