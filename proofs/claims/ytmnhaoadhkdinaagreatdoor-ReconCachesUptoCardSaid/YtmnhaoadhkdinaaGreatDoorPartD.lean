/- A part of the proof of the law ReconCaches. CONDITIONS: those that each theorem names. -/
import Derived.Test.YtmnhaoadhkdinaaGreatDoorEngineA
import Derived.Test.YtmnhaoadhkdinaaGreatDoorEngineB
import Derived.Test.YtmnhaoadhkdinaaGreatDoorEngineC
import Derived.Test.YtmnhaoadhkdinaaGreatDoorEngineD
import Derived.Test.YtmnhaoadhkdinaaGreatDoorPartA
import Derived.Test.YtmnhaoadhkdinaaGreatDoorPartB
import Derived.Test.YtmnhaoadhkdinaaGreatDoorRC17
import Derived.Test.YtmnhaoadhkdinaaGreatDoorRC18
import Derived.Test.YtmnhaoadhkdinaaGreatDoorPartC
import Derived.Test.YtmnhaoadhkdinaaGreatDoorRC29
/-! A slice of the arguments' data: what is told of each element, and where the data of it stand. -/
namespace Go.Ai
open Go
section
variable {H : Type} {enc : TypeId × Value → H} {P : Program} {w : World} {base : Nat} {spare : Nat → Bool} {held : Bool} {N : Nat} {Ok : TypeId → DataW H → Prop}
theorem trod_rows (hO : OkD P N Ok) (hsp : ∀ b, spare b = true) {fuel n : Nat} {u e : TypeId} {ts : List TypeId} {ks : List CK} {v : Value} {x : DataW H × List MemPlace} (hu : P.underlying u = some (.slice e)) (hts : cellTs P n e = some ts) (hks : kindsOf P ts = some ks) (hsz : P.cellsOf e = ks.length) (hpos : 0 < ks.length)
    (hby : 0 < P.bytesOf e) (h : DataW.trod enc P w base spare held fuel u [v] = some x) (hok : Ok u x.1) : ∃ (a : AV) (L : List (List AV)) (es : List (DataW H)), RV (rhoW w) a v ∧ RoomA a ∧ (∀ l ∈ L, cksOk ks l) ∧ L.length ≤ N ∧ (((a = .nils ∨ a = .hole) ∧ L = []) ∨ ∃ b o eo cap, a = .slice b o eo L.length cap ∧ rdAB (hget (absH w) b) o (L.length * ks.length) = some L.flatten) ∧ es.length = L.length ∧ (es = [] ∨ ∃ sp, x.1 = .slice es sp) ∧
      ∀ (i : Nat) (l : List AV), L[i]? = some l → ∃ cs y f, es[i]? = some y.1 ∧ absCs w cs = some l ∧ DataW.trod enc P w base spare held f e cs = some y := by
  rcases DataW.trod_slice hu h with ⟨hc, _⟩ | ⟨ad, len, cap, elems, rest, m, _, hc, hx, hb, hl, hcap, hel, hE, hR, _⟩
  · cases hc
    exact ⟨.nils, [], [], rfl, trivial, by simp, Nat.zero_le _, .inl ⟨.inl rfl, rfl⟩, rfl, .inl rfl, by simp⟩
  · cases hc
    rw [hx] at hok
    have hlen : len ≤ N := by have := hO.len u e _ _ hu hby hok; simpa [hel] using this
    rcases Nat.eq_zero_or_pos cap with hc0 | hcp
    · have hl0 : len = 0 := by omega
      subst hc0 hl0
      exact ⟨.hole, [], [], ⟨ad, rfl⟩, trivial, by simp, Nat.zero_le _, .inl ⟨.inr rfl, rfl⟩, rfl, .inl rfl, by simp⟩
    obtain ⟨b, o, rfl, hblt⟩ := slice_at hsp (by omega) hcp hel hE hR
    have e1 : Nat.blt b w.heap.size = true := by simpa using hblt
    have e2 : Nat.ble len cap = true := Nat.ble_eq_true_of_le hl
    have hab : absC w (.slice (some ⟨b, o, none⟩) len cap) = some (.slice b o 0 len (some cap)) := by simp only [absC, e1, e2, Bool.and_self]
    · skip
      -- an element
      have elem : ∀ i, i < cap → ∃ cells l, w.cells? base ⟨b, o + i * ks.length, none⟩ ks.length = some cells ∧ absCs w cells = some l ∧ cksOk ks l ∧ (i < len → ∃ y f, (elems.map (·.1))[i]? = some y.1 ∧ DataW.trod enc P w base spare held f e cells = some y) := by
        intro i hi
        have hq : ∃ y, (w.cells? base (Addr.add ⟨b, o, none⟩ (i * P.cellsOf e)) (P.cellsOf e)).bind (DataW.trod enc P w base spare held m e) = some y ∧ (i < len → (elems.map (·.1))[i]? = some y.1) := by
          by_cases hil : i < len
          · have := hE i hil
            have h1 : elems[i]? = some elems[i] := by simp [hel, hil]
            rw [h1] at this
            exact ⟨_, this, fun _ => by rw [List.getElem?_map, h1]; rfl⟩
          · obtain ⟨hr1, hr2⟩ := hR (hsp _)
            have := hr2 (i - len) (by omega)
            rw [show len + (i - len) = i by omega, show rest[i - len]? = some rest[i - len] by simp] at this
            exact ⟨_, this, fun h => absurd h hil⟩
        obtain ⟨y, hy, hyo⟩ := hq
        rw [hsz, add_none] at hy
        obtain ⟨cells, h1, h2⟩ := Option.bind_eq_some_iff.1 hy
        obtain ⟨l, h3, h4⟩ := trod_flat hsp hks (trod_each hts h2)
        exact ⟨cells, l, h1, h3, h4, fun hi => ⟨y, m, hyo hi, h2⟩⟩
      have build : ∀ k, k ≤ len → ∃ L : List (List AV), L.length = k ∧ ∀ (i : Nat) (l : List AV), L[i]? = some l → ∃ cells, w.cells? base ⟨b, o + i * ks.length, none⟩ ks.length = some cells ∧ absCs w cells = some l ∧ cksOk ks l ∧ ∃ y f, (elems.map (·.1))[i]? = some y.1 ∧ DataW.trod enc P w base spare held f e cells = some y := by
        intro k
        induction k with
        | zero => intro _; exact ⟨[], rfl, by simp⟩
        | succ k ih =>
          intro hk
          obtain ⟨L, h1, h2⟩ := ih (by omega)
          obtain ⟨cells, l, h3, h4, h5, h6⟩ := elem k (by omega)
          refine ⟨L ++ [l], by simp [h1], fun i l' hi => ?_⟩
          by_cases hik : i < L.length
          · rw [List.getElem?_append_left hik] at hi; exact h2 i l' hi
          · rw [List.getElem?_append_right (by omega)] at hi
            have : i = k := by
              have := (List.getElem?_eq_some_iff.1 hi).1
              simp at this; omega
            subst this
            rw [h1, Nat.sub_self] at hi
            simp at hi
            subst hi
            exact ⟨cells, h3, h4, h5, h6 (by omega)⟩
      obtain ⟨L, hL, hall⟩ := build len (Nat.le_refl _)
      have hok : ∀ l ∈ L, cksOk ks l := fun l hm => by
        obtain ⟨i, hi⟩ := List.getElem?_of_mem hm
        obtain ⟨_, _, _, h, _⟩ := hall i l hi
        exact h
      refine ⟨_, L, elems.map (·.1), absC_rv hab, hl, hok, by omega, .inr ⟨b, o, 0, some cap, by rw [hL], ?_⟩, by simp [hel, hL], .inr ⟨_, by rw [hx]⟩, fun i l hi => by
        obtain ⟨cells, _, h1, _, y, f, h2, h3⟩ := hall i l hi
        exact ⟨cells, y, f, h2, h1, h3⟩⟩
      obtain ⟨f1, f2⟩ := flatten_get (L := L) (es := ks.length) fun l hm => (hok l hm).length
      -- the row
      obtain ⟨cells0, _, hc0, _⟩ := elem 0 hcp
      obtain ⟨_, hlen0, hcell0⟩ := World.cells?_some hc0
      have h00 := hcell0 0 hpos
      rw [show cells0[0]? = some cells0[0] by simp, add_none] at h00
      have hrow : ∃ c ty fz, w.heap[b]? = some (.cells c ty fz) := by
        unfold World.cell? at h00
        cases hh : w.heap[b]? with
        | none => rw [hh] at h00; cases h00
        | some ob =>
          rw [hh] at h00
          cases ob with
          | cells c ty fz => exact ⟨c, ty, fz, rfl⟩
          | _ => simp at h00
      obtain ⟨c, ty, fz, hrow⟩ := hrow
      have hget : hget (absH w) b = some (.rom (optT (c.toList.map (absC w)) 0 .e) c.size) := by rw [hget_absH, hrow]; rfl
      have cellc : ∀ k, w.cell? ⟨b, k, none⟩ = c[k]? := fun k => by simp [World.cell?, hrow]
      have hlast : o + L.length * ks.length ≤ c.size := by
        by_cases hz : L.length = 0
        · rw [hz, Nat.zero_mul]
          rw [cellc] at h00
          have := (Array.getElem?_eq_some_iff.1 h00).1
          omega
        · obtain ⟨cells, _, h1, _⟩ := elem (L.length - 1) (by omega)
          obtain ⟨_, h2, h3⟩ := World.cells?_some h1
          have h4 := h3 (ks.length - 1) (by omega)
          rw [show cells[ks.length - 1]? = some cells[ks.length - 1] by simp, add_none, cellc] at h4
          have h5 := (Array.getElem?_eq_some_iff.1 h4).1
          have h6 : (L.length - 1) * ks.length + ks.length = L.length * ks.length := by
            rw [← Nat.succ_mul]; congr 1; omega
          omega
      rw [hget]
      simp only [rdAB]
      have hble : Nat.ble (o + L.length * ks.length) c.size = true := Nat.ble_eq_true_of_le hlast
      rw [hble]
      simp only
      refine rowGet_of f1 fun j hj => ?_
      have hes : 0 < ks.length := hpos
      have hj1 : j = j / ks.length * ks.length + j % ks.length := by rw [Nat.mul_comm]; exact (Nat.div_add_mod j ks.length).symm
      have hj2 : j % ks.length < ks.length := Nat.mod_lt _ hes
      have hj3 : j / ks.length < L.length := Nat.div_lt_of_lt_mul (by rw [Nat.mul_comm]; exact hj)
      have hLi : L[j / ks.length]? = some L[j / ks.length] := by simp [hj3]
      obtain ⟨cells, h1, h2, h3, _⟩ := hall _ _ hLi
      obtain ⟨_, h4, h5⟩ := World.cells?_some h1
      have h6 := h5 (j % ks.length) hj2
      rw [add_none, cellc] at h6
      rw [hj1, f2 _ _ hj2, hLi]
      simp only [Option.bind_some]
      rw [get_optT, if_pos (Nat.zero_le _), Nat.sub_zero, List.getElem?_map, Array.getElem?_toList, ← Nat.add_assoc, h6]
      have h7 : cells[j % ks.length]? = some (cells[j % ks.length]'(by omega)) := by simp
      rw [h7]
      simp only [Option.map_some]
      have h8 := (absCs_get h2).2 (j % ks.length) _ h7
      rw [h8]
      have h9 : (L[j / ks.length])[j % ks.length]? = some ((L[j / ks.length])[j % ks.length]'(by rw [(hok _ (List.getElem_mem hj3)).length]; exact hj2)) := by simp
      rw [h9]
end
end Go.Ai

