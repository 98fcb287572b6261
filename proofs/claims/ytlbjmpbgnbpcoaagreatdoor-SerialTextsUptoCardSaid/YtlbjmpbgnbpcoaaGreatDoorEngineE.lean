/- A part of an evaluator over an abstract heap and of the proof that it is sound for the model. CONDITIONS: those that each theorem names. -/
import Derived.SizedLaws
import Derived.Test.YtlbjmpbgnbpcoaaGreatDoorEngineA
import Derived.Test.YtlbjmpbgnbpcoaaGreatDoorEngineB
import Derived.Test.YtlbjmpbgnbpcoaaGreatDoorEngineC
import Derived.Test.YtlbjmpbgnbpcoaaGreatDoorEngineD
/-! The cells of the arguments' data, their lists, and what is asked of their sizes. -/
namespace Go.Ai
open Go
/-- a thing that is asked of data, and so of their parts; slices are no longer than N -/
structure OkD {H : Type} (P : Program) (N : Nat) (Ok : TypeId → DataW H → Prop) : Prop where
  part : ∀ (t : TypeId) (fs : Array Field) (ps : List (DataW H)) (k : Nat) (f : Field) (d : DataW H), P.underlying t = some (.struct fs) → Ok t (.agg ps) → fs[k]? = some f → ps[k]? = some d → Ok f.type d
  elem : ∀ (t e : TypeId) (es sp : List (DataW H)) (i : Nat) (d : DataW H), P.underlying t = some (.slice e) → Ok t (.slice es sp) → es[i]? = some d → Ok e d
  len : ∀ (t e : TypeId) (es sp : List (DataW H)), P.underlying t = some (.slice e) → 0 < P.bytesOf e → Ok t (.slice es sp) → es.length ≤ N
theorem weightsAll_mem {H : Type} {P : Program} {e : TypeId} : ∀ {l : List (DataW H)} {i : Nat} {d : DataW H}, l[i]? = some d → ∀ n ∈ d.weights P e, n ∈ DataW.weightsAll P e l
  | [], i, d, h, _, _ => by simp at h
  | x :: r, 0, d, h, n, hn => by
    simp at h; subst h
    simp only [DataW.weightsAll, List.mem_append]; exact .inl hn
  | x :: r, i + 1, d, h, n, hn => by
    simp only [DataW.weightsAll, List.mem_append]
    exact .inr (weightsAll_mem (l := r) (i := i) (by simpa using h) n hn)
/-- what weighs no more than the machine bears -/
theorem okD_weights {H : Type} (P : Program) : OkD (H := H) P 140737488351232 fun t d => ∀ n ∈ DataW.weights P t d, n ≤ reachBytes := by
  refine ⟨?_, ?_, ?_⟩
  · intro t fs ps k f d hu h hf hd n hn
    refine h n ?_
    simp only [DataW.weights, hu]
    exact DataW.weights_mem_each (j := k) (t := f.type) (d := d) (by rw [List.getElem?_map]; simp [hf]) hd n hn
  · intro t e es sp i d hu h hd n hn
    refine h n ?_
    simp only [DataW.weights, hu]
    exact List.mem_cons_of_mem _ (List.mem_append_left _ (weightsAll_mem hd n hn))
  · intro t e es sp hu hb h
    have := h ((es.length + sp.length) * P.bytesOf e) (by simp [DataW.weights, hu])
    exact Nat.le_trans (Nat.le_trans (Nat.le_add_right _ sp.length) (Nat.le_mul_of_pos_right _ hb)) this
section
variable {H : Type} {enc : TypeId × Value → H} {P : Program} {w : World} {base : Nat} {spare : Nat → Bool} {held : Bool} {N : Nat} {Ok : TypeId → DataW H → Prop}
/-- each cell is told, and as is asked -/
def TrodEachW (enc : TypeId × Value → H) (P : Program) (w : World) (base : Nat) (spare : Nat → Bool) (held : Bool) (Ok : TypeId → DataW H → Prop) (cs : List Value) (ts : List TypeId) : Prop :=
  cs.length = ts.length ∧ ∀ (i : Nat) (u : TypeId), ts[i]? = some u → ∃ v f y, cs[i]? = some v ∧ DataW.trod enc P w base spare held f u [v] = some y ∧ Ok u y.1
theorem trod_eachW (hO : OkD P N Ok) : ∀ {n : Nat} {t : TypeId} {ts : List TypeId} {fuel : Nat} {cs : List Value} {x : DataW H × List MemPlace}, cellTs P n t = some ts → DataW.trod enc P w base spare held fuel t cs = some x → Ok t x.1 → TrodEachW enc P w base spare held Ok cs ts
  | 0, _, _, _, _, _, h, _, _ => by cases h
  | n + 1, t, ts, fuel, cs, x, h, hx, hok => by
    have one : ∀ v, cs = [v] → ts = [t] → TrodEachW enc P w base spare held Ok cs ts := by
      rintro v rfl rfl
      refine ⟨rfl, fun i u hu => ?_⟩
      cases i with
      | zero => simp at hu; subst hu; exact ⟨v, fuel, x, rfl, hx, hok⟩
      | succ i => simp at hu
    unfold cellTs at h
    split at h
    · rename_i fs hu
      split at h
      · rename_i ts' hts
        split at h
        · rename_i hb
          cases h
          have hb := Nat.eq_of_beq_eq_true hb
          obtain ⟨xs, m, rfl, hxd, hlen, hxl, hf⟩ := DataW.trod_struct hu hx
          rw [hxd] at hok
          have hW : ∀ (k : Nat) (f : Field) (y : DataW H × List MemPlace), fs[k]? = some f → xs[k]? = some y → Ok f.type y.1 := fun k f y h1 h2 =>
            hO.part t fs _ k f y.1 hu hok h1 (by rw [List.getElem?_map, h2]; rfl)
          have key : ∀ (l : List Field) (k off : Nat) (ts : List TypeId), (∀ (i : Nat) (f : Field), l[i]? = some f → fs[k + i]? = some f) → cellFs P (cellTs P n) l off = some ts → ∀ (i : Nat) (u : TypeId), ts[i]? = some u →
              ∃ v f y, cs[off + i]? = some v ∧ DataW.trod enc P w base spare held f u [v] = some y ∧ Ok u y.1 := by
            intro l
            induction l with
            | nil => intro k off ts _ h i u hu; simp [cellFs] at h; subst h; simp at hu
            | cons f l ih =>
              intro k off ts hl h i u hui
              simp only [cellFs] at h
              split at h
              · rename_i ts1 ho hr
                split at h
                · rename_i r hc hrest
                  cases h
                  have ho := Nat.eq_of_beq_eq_true ho
                  have hc := Nat.eq_of_beq_eq_true hc
                  have hk : fs[k]? = some f := by simpa using hl 0 f (by simp)
                  have h1 := hf k f hk
                  have hkl : k < xs.length := by rw [hxl]; exact (Array.getElem?_eq_some_iff.1 hk).1
                  have hxk : xs[k]? = some xs[k] := by simp [hkl]
                  rw [hxk, ho, hc] at h1
                  by_cases hi : i < ts1.length
                  · rw [List.getElem?_append_left hi] at hui
                    obtain ⟨v, g, y, h2, h3, h4⟩ := (trod_eachW hO hr h1 (hW k f _ hk hxk)).2 i u hui
                    rw [List.getElem?_take, if_pos hi, List.getElem?_drop] at h2
                    exact ⟨v, g, y, h2, h3, h4⟩
                  · rw [List.getElem?_append_right (by omega)] at hui
                    obtain ⟨v, g, y, h2, h3⟩ := ih (k + 1) (off + ts1.length) r (fun j f' hj => by
                      have := hl (j + 1) f' (by simpa using hj)
                      rw [show k + 1 + j = k + (j + 1) by omega]; exact this) hrest (i - ts1.length) u hui
                    exact ⟨v, g, y, by rw [show off + i = off + ts1.length + (i - ts1.length) by omega]; exact h2, h3⟩
                · cases h
              · cases h
          refine ⟨hlen.trans hb, fun i u hui => ?_⟩
          have := key fs.toList 0 0 ts (fun i f hf => by simpa using hf) hts i u hui
          simpa using this
        · cases h
      · cases h
    · rename_i hu
      cases h
      obtain ⟨b, hc, _⟩ := DataW.trod_bool hu hx
      exact one _ hc rfl
    · rename_i k hu
      cases h
      obtain ⟨b, hc, _⟩ := DataW.trod_int hu hx
      exact one _ hc rfl
    · rename_i hu
      cases h
      obtain ⟨b, hc, _⟩ := DataW.trod_string hu hx
      exact one _ hc rfl
    · rename_i e hu
      cases h
      rcases DataW.trod_slice hu hx with ⟨hc, _⟩ | ⟨a, len, cap, _, _, _, _, hc, _⟩
      · exact one _ hc rfl
      · exact one _ hc rfl
    · cases h
theorem TrodEachW.each {cs : List Value} {ts : List TypeId} (h : TrodEachW enc P w base spare held Ok cs ts) : TrodEach enc P w base spare held cs ts :=
  ⟨h.1, fun i u hu => let ⟨v, f, y, h1, h2, _⟩ := h.2 i u hu; ⟨v, f, y, h1, h2⟩⟩
/-- A SLICE OF THE ARGUMENTS' DATA: a list that lies in memory; of each element the cells, told once more. -/
theorem trod_list (hO : OkD P N Ok) (hsp : ∀ b, spare b = true) {fuel n : Nat} {u e : TypeId} {ts : List TypeId} {ks : List CK} {v : Value} {x : DataW H × List MemPlace} (hu : P.underlying u = some (.slice e)) (hts : cellTs P n e = some ts) (hks : kindsOf P ts = some ks) (hsz : P.cellsOf e = ks.length) (hpos : 0 < ks.length)
    (hby : 0 < P.bytesOf e) (h : DataW.trod enc P w base spare held fuel u [v] = some x) (hok : Ok u x.1) : ∃ (a : AV) (L : List (List AV)), absC w v = some a ∧ LstP (absH w) ks a L ∧ L.length ≤ N ∧
      ∀ (i : Nat) (l : List AV), L[i]? = some l → ∃ cs, absCs w cs = some l ∧ TrodEachW enc P w base spare held Ok cs ts := by
  rcases DataW.trod_slice hu h with ⟨hc, _⟩ | ⟨ad, len, cap, elems, rest, m, _, hc, hx, hb, hl, hcap, hel, hE, hR, _⟩
  · cases hc
    exact ⟨.nils, [], rfl, ⟨by simp, by simp, .inl ⟨.inl rfl, rfl⟩⟩, Nat.zero_le _, by simp⟩
  · cases hc
    rw [hx] at hok
    have hlen : len ≤ N := by have := hO.len u e _ _ hu hby hok; simpa [hel] using this
    obtain ⟨a, ha, _⟩ := slice_abs hsp (by omega) hl hel hE hR
    rcases Nat.eq_zero_or_pos cap with hc0 | hcp
    · have hl0 : len = 0 := by omega
      subst hc0 hl0
      refine ⟨a, [], ha, ⟨by simp, by simp, ?_⟩, Nat.zero_le _, by simp⟩
      obtain ⟨b, o, sp⟩ := ad
      cases sp with
      | some sp => simp only [absC] at ha; cases ha; exact .inl ⟨.inr rfl, rfl⟩
      | none =>
        simp only [absC] at ha
        split at ha
        · cases ha; exact .inr ⟨_, _, _, _, rfl, by simp⟩
        · cases ha; exact .inl ⟨.inr rfl, rfl⟩
    obtain ⟨b, o, rfl, hblt⟩ := slice_at hsp (by omega) hcp hel hE hR
    have e1 : Nat.blt b w.heap.size = true := by simpa using hblt
    have e2 : Nat.ble len cap = true := Nat.ble_eq_true_of_le hl
    have hab : absC w (.slice (some ⟨b, o, none⟩) len cap) = some (.slice b o 0 len (some cap)) := by simp only [absC, e1, e2, Bool.and_self]
    · skip
      -- an element
      have elem : ∀ i, i < cap → ∃ cells l, w.cells? base ⟨b, o + i * ks.length, none⟩ ks.length = some cells ∧ absCs w cells = some l ∧ cksOk ks l ∧ (i < len → TrodEachW enc P w base spare held Ok cells ts) := by
        intro i hi
        have hq : ∃ y, (w.cells? base (Addr.add ⟨b, o, none⟩ (i * P.cellsOf e)) (P.cellsOf e)).bind (DataW.trod enc P w base spare held m e) = some y ∧ (i < len → Ok e y.1) := by
          by_cases hil : i < len
          · have := hE i hil
            have h1 : elems[i]? = some elems[i] := by simp [hel, hil]
            rw [h1] at this
            exact ⟨_, this, fun _ => hO.elem u e _ _ i _ hu hok (by rw [List.getElem?_map, h1]; rfl)⟩
          · obtain ⟨hr1, hr2⟩ := hR (hsp _)
            have := hr2 (i - len) (by omega)
            rw [show len + (i - len) = i by omega, show rest[i - len]? = some rest[i - len] by simp] at this
            exact ⟨_, this, fun h => absurd h hil⟩
        obtain ⟨y, hy, hyo⟩ := hq
        rw [hsz, add_none] at hy
        obtain ⟨cells, h1, h2⟩ := Option.bind_eq_some_iff.1 hy
        obtain ⟨l, h3, h4⟩ := trod_flat hsp hks (trod_each hts h2)
        exact ⟨cells, l, h1, h3, h4, fun hi => trod_eachW hO hts h2 (hyo hi)⟩
      have build : ∀ k, k ≤ len → ∃ L : List (List AV), L.length = k ∧ ∀ (i : Nat) (l : List AV), L[i]? = some l → ∃ cells, w.cells? base ⟨b, o + i * ks.length, none⟩ ks.length = some cells ∧ absCs w cells = some l ∧ cksOk ks l ∧ TrodEachW enc P w base spare held Ok cells ts := by
        intro k
        induction k with
        | zero => intro _; exact ⟨[], rfl, by simp⟩
        | succ k ih =>
          intro hk
          obtain ⟨L, h1, h2⟩ := ih (by omega)
          obtain ⟨cells, l, h3, h4, h5, h6⟩ := elem k (by omega)
          refine ⟨L ++ [l], by simp [h1], fun i l' hi => ?_⟩
          by_cases hik : i < L.length
          · rw [List.getElem?_append_left hik] at hi; exact h2 i l' hi
          · rw [List.getElem?_append_right (by omega)] at hi
            have : i = k := by
              have := (List.getElem?_eq_some_iff.1 hi).1
              simp at this; omega
            subst this
            rw [h1, Nat.sub_self] at hi
            simp at hi
            subst hi
            exact ⟨cells, h3, h4, h5, h6 (by omega)⟩
      obtain ⟨L, hL, hall⟩ := build len (Nat.le_refl _)
      have hok : ∀ l ∈ L, cksOk ks l := fun l hm => by
        obtain ⟨i, hi⟩ := List.getElem?_of_mem hm
        obtain ⟨_, _, _, h, _⟩ := hall i l hi
        exact h
      refine ⟨_, L, hab, ⟨hok, by omega, .inr ⟨b, o, 0, some cap, by rw [hL], fun hpl => ?_⟩⟩, by omega, fun i l hi => by
        obtain ⟨cells, _, h1, _, h2⟩ := hall i l hi
        exact ⟨cells, h1, h2⟩⟩
      obtain ⟨f1, f2⟩ := flatten_get (L := L) (es := ks.length) fun l hm => (hok l hm).length
      -- the row
      obtain ⟨cells0, _, hc0, _⟩ := elem 0 hcp
      obtain ⟨_, hlen0, hcell0⟩ := World.cells?_some hc0
      have h00 := hcell0 0 hpos
      rw [show cells0[0]? = some cells0[0] by simp, add_none] at h00
      have hrow : ∃ c ty fz, w.heap[b]? = some (.cells c ty fz) := by
        unfold World.cell? at h00
        cases hh : w.heap[b]? with
        | none => rw [hh] at h00; cases h00
        | some ob =>
          rw [hh] at h00
          cases ob with
          | cells c ty fz => exact ⟨c, ty, fz, rfl⟩
          | _ => simp at h00
      obtain ⟨c, ty, fz, hrow⟩ := hrow
      have hget : hget (absH w) b = some (.rom (optT (c.toList.map (absC w)) 0 .e) c.size) := by rw [hget_absH, hrow]; rfl
      have cellc : ∀ k, w.cell? ⟨b, k, none⟩ = c[k]? := fun k => by simp [World.cell?, hrow]
      have hlast : o + L.length * ks.length ≤ c.size := by
        by_cases hz : L.length = 0
        · rw [hz, Nat.zero_mul]
          rw [cellc] at h00
          have := (Array.getElem?_eq_some_iff.1 h00).1
          omega
        · obtain ⟨cells, _, h1, _⟩ := elem (L.length - 1) (by omega)
          obtain ⟨_, h2, h3⟩ := World.cells?_some h1
          have h4 := h3 (ks.length - 1) (by omega)
          rw [show cells[ks.length - 1]? = some cells[ks.length - 1] by simp, add_none, cellc] at h4
          have h5 := (Array.getElem?_eq_some_iff.1 h4).1
          have h6 : (L.length - 1) * ks.length + ks.length = L.length * ks.length := by
            rw [← Nat.succ_mul]; congr 1; omega
          omega
      rw [hget]
      simp only [rdAB]
      have hble : Nat.ble (o + L.length * ks.length) c.size = true := Nat.ble_eq_true_of_le hlast
      rw [hble]
      simp only
      refine rowGet_of f1 fun j hj => ?_
      have hes : 0 < ks.length := hpos
      have hj1 : j = j / ks.length * ks.length + j % ks.length := by rw [Nat.mul_comm]; exact (Nat.div_add_mod j ks.length).symm
      have hj2 : j % ks.length < ks.length := Nat.mod_lt _ hes
      have hj3 : j / ks.length < L.length := Nat.div_lt_of_lt_mul (by rw [Nat.mul_comm]; exact hj)
      have hLi : L[j / ks.length]? = some L[j / ks.length] := by simp [hj3]
      obtain ⟨cells, h1, h2, h3, _⟩ := hall _ _ hLi
      obtain ⟨_, h4, h5⟩ := World.cells?_some h1
      have h6 := h5 (j % ks.length) hj2
      rw [add_none, cellc] at h6
      rw [hj1, f2 _ _ hj2, hLi]
      simp only [Option.bind_some]
      rw [get_optT, if_pos (Nat.zero_le _), Nat.sub_zero, List.getElem?_map, Array.getElem?_toList, ← Nat.add_assoc, h6]
      have h7 : cells[j % ks.length]? = some (cells[j % ks.length]'(by omega)) := by simp
      rw [h7]
      simp only [Option.map_some]
      have h8 := (absCs_get h2).2 (j % ks.length) _ h7
      rw [h8]
      have h9 : (L[j / ks.length])[j % ks.length]? = some ((L[j / ks.length])[j % ks.length]'(by rw [(hok _ (List.getElem_mem hj3)).length]; exact hj2)) := by simp
      rw [h9]
end
end Go.Ai

