/- A part of the proof of the law ReplayRings. CONDITIONS: those that each theorem names. -/
import Derived.Test.YtpgkhpfogjclhaaGreatDoorRFElem
/-! A table with one more call; new lists. -/
namespace Go.Ai
open Go
variable {P : Program} {G : Glob}
theorem snd_one {f : FuncId} {args : List AV} {s : St} {x : Out} (h : SndQ P G f args s (fun o => o = x)) : Snd P G f args s [x] := by
  intro base ρ w vs rv rm
  obtain ⟨outs, h1, h2⟩ := h
  refine (h1 base ρ w vs rv rm).mono ?_
  rintro e w' ⟨ρ', ⟨v', s', u, ho, r⟩ | ⟨v', s', u, ho, r⟩⟩
  · exact ⟨ρ', .inl ⟨v', s', u, List.mem_singleton.2 (h2 _ ho), r⟩⟩
  · exact ⟨ρ', .inr ⟨v', s', u, List.mem_singleton.2 (h2 _ ho), r⟩⟩
noncomputable def pointF (K : CallF) (f : FuncId) (args : List AV) (s : St) (outs : List Out) : FuncId → List AV → St → Outs := fun g as t => open Classical in if g = f ∧ as = args ∧ t = s then some outs else CallF.fn K g as t
noncomputable def point (K : CallF) (f : FuncId) (args : List AV) (s : St) (outs : List Out) : CallF := ⟨pointF K f args s outs, fun _ _ _ => none⟩
theorem point_ok {K : CallF} (hK : KOK P G K) {f : FuncId} {args : List AV} {s : St} {outs : List Out} (h : Snd P G f args s outs) : KOK P G (point K f args s outs) := KOK.table fun g as t o ho => by
  unfold pointF at ho
  split at ho
  · rename_i e
    obtain ⟨rfl, rfl, rfl⟩ := e
    cases ho; exact h
  · exact hK.fn _ _ _ _ ho
theorem point_hit {K : CallF} {f : FuncId} {args : List AV} {s : St} {outs : List Out} : CallF.fn (point K f args s outs) f args s = some outs := if_pos ⟨rfl, rfl, rfl⟩
theorem point_miss {K : CallF} {f g : FuncId} {args as : List AV} {s t : St} {outs : List Out} (hne : g ≠ f) : CallF.fn (point K f args s outs) g as t = CallF.fn K g as t := if_neg fun e => hne e.1
theorem wf_up {h : Heap} {F F' : Nat} (hw : Wf ⟨h, F⟩) (hle : F ≤ F') : Wf ⟨h, F'⟩ := by
  intro i ab hi hd
  have h1 := hw i ab hi hd
  have : ky F 0 ≤ ky F' 0 := by unfold ky; omega
  simp only at h1 ⊢
  omega
theorem wf_hset {h : Heap} {F c : Nat} {b : AB} (hw : Wf ⟨h, F + 1⟩) (hc : c ≤ 1267650600228229401496703205375) : Wf ⟨hset h (ky F c) b, F + 1⟩ := by
  intro i ab hi hd
  simp only at hi ⊢
  rw [hget_hset] at hi
  split at hi
  · rename_i e; subst e; exact ky_up (by omega) hc
  · exact hw i ab hi hd
theorem lst_new {h : Heap} {ks : List CK} {L : List (List AV)} {k : Nat} {cap : Option Nat} (hok : ∀ l ∈ L, cksOk ks l) (hm : L.length ≤ maxLen) (hg : hget h k = some (mkRow L.flatten ks.length)) : LstP h ks (.slice k 0 0 L.length cap) L := by
  refine ⟨hok, hm, .inr ⟨k, 0, 0, cap, rfl, fun hp => ?_⟩⟩
  obtain ⟨f1, _⟩ := flatten_get (L := L) (es := ks.length) fun l hl => (hok l hl).length
  rw [hg, rdAB_row, if_pos (by omega), List.drop_zero, List.take_of_length_le (by omega)]
theorem lst_none {h : Heap} {ks : List CK} {b o eo : Nat} {cap : Option Nat} : LstP h ks (.slice b o eo 0 cap) [] := ⟨by simp, by simp, .inr ⟨b, o, eo, cap, rfl, by simp⟩⟩
theorem src_L {h : Heap} {ks : List CK} {a : AV} {L : List (List AV)} (hl : LstP h ks a L) (hp : 0 < L.length) : srcCells h ks.length a = some (L.length, L.flatten) := by
  rcases hl.2.2 with ⟨_, rfl⟩ | ⟨b, o, eo, cap, rfl, hr⟩
  · simp at hp
  · have := hr hp
    obtain ⟨n, hn⟩ : ∃ n, L.length = n + 1 := ⟨L.length - 1, by omega⟩
    rw [hn] at this ⊢
    simp only [srcCells, readCells_eq, Nat.succ_eq_add_one, this]
theorem src_none {h : Heap} {ks : List CK} {a : AV} (hl : LstP h ks a []) : srcCells h ks.length a = some (0, []) := by
  rcases hl.2.2 with ⟨rfl | rfl, _⟩ | ⟨b, o, eo, cap, rfl, hr⟩ <;> rfl
end Go.Ai
