/- A part of an evaluator over an abstract heap and of the proof that it is sound for the model. CONDITIONS: those that each theorem names. -/
import Derived.Test.YtneoghpfbgjaiaaGreatDoorAiAct2
namespace Go.Ai
open Go
variable {P : Program} {ρ : Map} {fr : Fr} {a : Act} {base key : Nat} {s : St} {w : World} {outs : List Out}

/-! ### the next entry -/
theorem RE_filter (f : Nat → Bool) : ∀ {es : MEs} {l : List MapEntry}, REs ρ es l → REs ρ (es.filter fun e => f e.2.2) (l.filter fun e => f e.born)
  | [], _, r => by simp only [REs] at r; subst r; rfl
  | (k, v, b) :: es, _, ⟨k', v', l', rk, rv, rs, e⟩ => by
    subst e
    have ih := RE_filter f rs
    simp only [List.filter_cons]
    cases f b
    · simpa using ih
    · simp only [if_true]; exact ⟨k', v', _, rk, rv, ih, rfl⟩
theorem RE_all (f : Nat → Bool) : ∀ {es : MEs} {l : List MapEntry}, REs ρ es l → es.all (fun e => f e.2.2) = l.all (fun e => f e.born)
  | [], _, r => by simp only [REs] at r; subst r; rfl
  | (k, v, b) :: es, _, ⟨k', v', l', rk, rv, rs, e⟩ => by subst e; simp [RE_all f rs]
theorem RE_any (f : Nat → Bool) : ∀ {es : MEs} {l : List MapEntry}, REs ρ es l → es.any (fun e => f e.2.2) = l.any (fun e => f e.born)
  | [], _, r => by simp only [REs] at r; subst r; rfl
  | (k, v, b) :: es, _, ⟨k', v', l', rk, rv, rs, e⟩ => by subst e; simp [RE_any f rs]
theorem RE_get : ∀ {es : MEs} {l : List MapEntry} {i : Nat} {x : MapEntry}, REs ρ es l → l[i]? = some x → ∃ k v, es[i]? = some (k, v, x.born) ∧ RV ρ k x.key ∧ RV ρ v x.val
  | [], _, i, x, r, h => by simp only [REs] at r; subst r; simp at h
  | (k, v, b) :: es, _, 0, x, ⟨k', v', l', rk, rv, rs, e⟩, h => by subst e; simp at h; subst h; exact ⟨k, v, rfl, rk, rv⟩
  | (k, v, b) :: es, _, i + 1, x, ⟨k', v', l', rk, rv, rs, e⟩, h => by subst e; simp only [List.getElem?_cons_succ] at h ⊢; exact RE_get rs h

theorem RE_empty {es : MEs} {ents : Array MapEntry} (r : REs ρ es ents.toList) : es.isEmpty = ents.isEmpty := by
  have hl := REs.length r
  obtain ⟨l⟩ := ents
  cases es <;> cases l <;> simp at hl ⊢

theorem nextOuts_mem {id m since clock : Nat} {seen : List Nat} : ∀ {l : MEs} {i : Nat} {e : AV × AV × Nat}, l[i]? = some e →
    Out.val (.tup [.bool true, e.1, e.2.1]) (s.upd id (.mit (some m) since (seen ++ [e.2.2]) clock)) ∈ nextOuts s id m since seen clock l
  | [], i, e, h => by simp at h
  | x :: l, 0, e, h => by simp at h; subst h; exact List.mem_cons_self
  | x :: l, i + 1, e, h => by
    simp only [List.getElem?_cons_succ] at h
    exact List.mem_cons_of_mem _ (nextOuts_mem h)

theorem a_next {it : Operand} (rh : RH ρ base (hget s.h) w) (r : RF ρ fr a) (h : aNx s (fr.ev it) = some outs) {dst : Option Tmp} {ty : TypeId} {pos : String} {after : Array Edge} {gd : Option (Nat × Bool)} :
    Some1 P ρ base key s w ((execOp a.eval ⟨dst, .next it false, ty, pos, after, gd⟩).run P w) outs := by
  unfold aNx at h
  split at h
  · rename_i id hv
    obtain ⟨e, he, hx⟩ := r.ev hv
    unfold aNx1 at h
    split at h
    · rename_i hg
      obtain ⟨e', ob, h1, h2, h3, m', h0, h4, hm'⟩ := rh.blk id _ hg (by simp)
      rw [he] at h1; cases h1
      subst hm'
      cases h
      rw [h0] at hx
      refine .one (AO.value (u := .tuple #[.bool false]) ?_ (Stp.same rh) rfl ⟨[.bool false], ⟨_, _, rfl, rfl, rfl⟩, rfl⟩)
      simp only [Instr.next, hx, Sem.run_bind, run_getObj h3 (by rw [h4]; simp), Result.andThen_ok, h4, Sem.run_pure]
    · rename_i m since seen last hg
      obtain ⟨e', ob, h1, h2, h3, m', h0, h4, e2, he2, hm'⟩ := rh.blk id _ hg (by simp)
      rw [he] at h1; cases h1
      subst hm'
      rw [h0] at hx
      unfold aNx2 at h
      split at h
      · rename_i es clock hgm
        obtain ⟨ents, hb, re⟩ := rh.map hgm he2
        split at h
        · cases h
        · rename_i hgone
          unfold aNx3 at h
          split at h
          · cases h
          · rename_i hnew
            have hempty : es.isEmpty = ents.isEmpty := RE_empty re
            have hall : es.all (fun e => Nat.ble last e.2.2) = ents.all (fun x => decide (x.born ≥ last)) := by
              rw [RE_all (Nat.ble last) re, ← Array.all_toList]
              congr 1
              funext x
              rw [Bool.eq_iff_iff]; simp
            have hgone' : (!seen.toArray.isEmpty && !ents.isEmpty && ents.all (fun x => decide (x.born ≥ last))) = false := by
              rw [← hall, ← hempty]
              simpa using hgone
            have hleft : (ents.filter fun e => !seen.toArray.contains e.born).toList = ents.toList.filter fun e => !seen.contains e.born := by
              rw [Array.toList_filter]
              congr 1
              funext x
              simp
            generalize hL : ents.filter (fun e => !seen.toArray.contains e.born) = L at hleft
            have rl : REs ρ (es.filter fun e => !seen.contains e.2.2) L.toList := by rw [hleft]; exact RE_filter (fun b => !seen.contains b) re
            generalize hE : (es.filter fun e => !seen.contains e.2.2) = E at rl h hnew
            have hold : L.filter (fun x => decide (x.born < since)) = L ∧ L.filter (fun x => decide (x.born ≥ since)) = #[] := by
              have hq := RE_any (fun b => !Nat.blt b since) rl
              rw [hnew] at hq
              have hall2 : ∀ x ∈ L, x.born < since := by
                intro x hxm
                have := List.any_eq_false.1 hq.symm x (by simpa using hxm)
                simpa using this
              refine ⟨by rw [Array.filter_eq_self]; intro x hxm; simpa using hall2 x hxm, by rw [Array.filter_eq_empty_iff]; intro x hxm; have := hall2 x hxm; simp; omega⟩
            have hrun : ((execOp a.eval ⟨dst, .next it false, ty, pos, after, gd⟩).run P w) = ((do
                let candidates := (if L.isEmpty then #[none] else #[]) ++ L.map some
                match candidates[← choose (.mapNext candidates.size)]? with
                | some (some e') => do
                  setObj e.b (.mapIter (some e2.b) since (seen.toArray.push e'.born) clock)
                  pure (.value (.tuple #[.bool true, e'.key, e'.val]))
                | some none => pure (.value (.tuple #[.bool false]))
                | none => stuck "Next: no such candidate" : Sem Next).run P w) := by
              simp only [execOp, Instr.next, hx, Sem.run_bind, run_getObj h3 (by rw [h4]; simp), Result.andThen_ok, h4, run_getObj hb (by simp), hgone', Bool.false_eq_true, if_false, hL, hold.1, hold.2, Array.append_empty]
              generalize (choose _).run P w = rr
              cases rr with
              | ok j w1 =>
                simp only [Result.andThen_ok]
                generalize ((if L.isEmpty = true then #[none] else #[]) ++ Array.map some L)[j]? = q
                rcases q with _ | _ | e'
                · rfl
                · rfl
                · simp only [Sem.run_bind]
                  cases (setObj e.b (Obj.mapIter (some e2.b) since (seen.toArray.push e'.born) clock)).run P w1 <;> rfl
              | _ => rfl
            rw [hrun]
            unfold aNx4 at h
            split at h
            · cases h
              have hLe : L = #[] := by
                have := REs.length rl
                apply Array.toList_inj.1
                exact List.length_eq_zero_iff.1 this.symm
              subst hLe
              refine .one ⟨ρ, w, Stp.same rh, fun _ _ => rfl, rfl, .inl ⟨.tuple #[.bool false], ?_, ⟨[.bool false], ⟨_, _, rfl, rfl, rfl⟩, rfl⟩⟩⟩
              have hf : (Question.mapNext 1).forced = true := rfl
              simp [hf]
            · rename_i hne
              cases h
              have hpos : 0 < L.size := by
                have := REs.length rl
                rcases Nat.eq_zero_or_pos L.size with h0 | h0
                · exact absurd (List.length_eq_zero_iff.1 (this.trans (by simpa using h0))) hne
                · exact h0
              have hch : ∃ (j : Nat) (w1 : World), j < L.size ∧ Stp ρ base (hget s.h) w ρ (hget s.h) w1 ∧ w1.heap = w.heap ∧ (choose (Question.mapNext L.size)).run P w = .ok j w1 := by
                rw [run_choose_drew]
                split
                · exact ⟨0, w, hpos, Stp.same rh, rfl, rfl⟩
                · exact ⟨_, w.drew, Nat.mod_lt _ hpos, Stp.draw rh, rfl, rfl⟩
              obtain ⟨j, w1, hj, hst, hhp, hrj⟩ := hch
              have hLx : L.toList[j]? = some L[j] := by simp [hj]
              obtain ⟨k, v, hk, rk, rv⟩ := RE_get rl hLx
              refine ⟨_, nextOuts_mem hk, ρ, { w1 with heap := w1.heap.setIfInBounds e.b (.mapIter (some e2.b) since (seen.toArray.push L[j].born) clock) }, ?_, fun _ _ => rfl, (upd_h s id _).2, .inl ⟨.tuple #[.bool true, L[j].key, L[j].val], ?_, ⟨[.bool true, L[j].key, L[j].val], ⟨_, _, rfl, ⟨_, _, rk, ⟨_, _, rv, rfl, rfl⟩, rfl⟩, rfl⟩, rfl⟩⟩⟩
              · rw [(upd_h s id _).1]
                refine hst.trans (Stp.upd hst.rh hg (by simp) he rfl rfl rfl (by simp) (setObj_heap (o := ob) (by rw [hhp]; exact h3)).1 (setObj_heap (o := ob) (by rw [hhp]; exact h3)).2 ⟨some e2.b, h0, by simp, e2, he2, rfl⟩)
              · have hemp : L.isEmpty = false := by simp only [Array.isEmpty, decide_eq_false_iff_not]; omega
                have hso : (setObj e.b (.mapIter (some e2.b) since (seen.toArray.push L[j].born) clock)).run P w1 = .ok () { w1 with heap := w1.heap.setIfInBounds e.b (.mapIter (some e2.b) since (seen.toArray.push L[j].born) clock) } :=
                  run_setObj (o := ob) (by rw [hhp]; exact h3) (by rw [h4]; simp)
                simp only [hemp, Bool.false_eq_true, if_false, Array.empty_append, Array.size_map, Sem.run_bind, hrj, Result.andThen_ok, Array.getElem?_map, Array.getElem?_eq_getElem hj, Option.map_some, hso, Sem.run_pure]
      · cases h
    · cases h
  · cases h
end Go.Ai
