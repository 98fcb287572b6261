/- A part of an evaluator over an abstract heap and of the proof that it is sound for the model. CONDITIONS: those that each theorem names. -/
import Derived.Test.YtneoghpfbgjaiaaGreatDoorAiCall
namespace Go.Ai
open Go
variable {P : Program} {G : Glob} {base : Nat}

/-- the names that the program must not bear -/
def NoNum (P : Program) : Prop := ∀ (f : FuncId) (fn : Func), P.funcs[f]? = some fn → fn.body.isSome = true → (fn.name == "runtime.NumGoroutine") = false
theorem callFunc_enter (hn : NoNum P) {f : FuncId} {fn : Func} {c : Code} (hf : P.funcs[f]? = some fn) (hb : fn.body = some c) (args : Array Value) (w : World) : (callFunc f args).run P w = .ok (.enter f args) w := by
  have h1 := hn f fn hf (by rw [hb]; rfl)
  have h2 : ¬ fn.name = "runtime.NumGoroutine" := by simpa using h1
  simp [callFunc, hf, h2, hb]

theorem deferred_sound {call : CallF} (HC : CallOK P G base call) (hm : P.follows .mixedOrders = true) (hn : NoNum P) {m : Nat} {d : AV × List AV} {u : Lv} {s : St} {l : List (Lv × St)} (h : deferred P G call m d u s = some l) {ρ : Map} {dd : Deferred} {mode : FrameMode} {w : World}
    (rd : RDef ρ d dd) (rl : RL ρ u mode) (rm : RM G base ρ s w) :
    ∃ fv cap f args, dd.target = .fn fv cap ∧ (invoke dd.target dd.args).run P w = .ok (.enter f args) w ∧
      CallsD P f args mode w fun e mode' w' => ∃ v, e = .returned v ∧ ∃ u' s' ρ', (u', s') ∈ l ∧ RL ρ' u' (settle mode') ∧ RM G base ρ' s' w' ∧ Adv base (fun _ => False) ρ s w ρ' s' w' := by
  obtain ⟨g, first, captured, hd, f', c', a', r1, r2, r3, hdd⟩ := rd
  unfold deferred at h
  rw [hd] at h
  simp only at h
  split at h
  · rename_i fn hfn
    have hfn' : P.funcs[g]? = some fn := by simpa using hfn
    split at h
    · cases h
    · rename_i l0 hbody
      have rv : RVs ρ (first ++ d.2 ++ captured) (f' ++ a' ++ c') := RVs.append (RVs.append r1 r3) r2
      obtain ⟨c, hc, hwp⟩ := body_sound HC hm hbody rv rm
      subst hdd
      refine ⟨.func g, c'.toArray, g, (f' ++ a' ++ c').toArray, rfl, ?_, ?_⟩
      · simp only [invoke]
        have e1 : (f' ++ a').toArray ++ c'.toArray = (f' ++ a' ++ c').toArray := by apply Array.toList_inj.1; simp
        rw [e1]
        exact callFunc_enter hn hfn' hc _ w
      · refine callsD_of_wpS hfn' hc fun c₀ cs hmode => ?_
        have hw := hwp (c₀ :: cs) (c₀ :: cs) (by
          clear hwp
          cases u with
          | back => exact ⟨rfl, c₀, cs, rfl, by rw [hmode]; exact rl⟩
          | pan v =>
            obtain ⟨x, rx, hx⟩ := rl
            refine ⟨c₀, cs, x, rfl, rx, ?_⟩
            rw [← hx, ← hmode])
        intro b k hb1 hb2
        obtain ⟨e, a2, cs', w', hpost, harr⟩ := hw b k (by cases u <;> exact ⟨hb1, hb2⟩)
        refine ⟨e, a2, cs', w', ?_, harr⟩
        obtain ⟨x, fr', s', ρ', h1, h2, h3, h4, h5, h6, h7, h8⟩ := hpost
        obtain ⟨g1, g2, ⟨v, g3⟩, g4⟩ := deferred_ends h x fr' s' h1
        rw [g2] at h5
        simp only [RD] at h5
        obtain ⟨rv, hrun, _⟩ := result_sound h3 h4 g3
        have hmodes : ∃ mode', cs' = { c₀ with mode := mode' } :: cs ∧ ∃ u', (u', s') ∈ l ∧ RL ρ' u' (settle mode') := by
          rcases g4 with ⟨e1, e2, e3⟩ | ⟨v, v', e1, e2, e3⟩ | ⟨v, v', e1, e2, e3⟩
          · rw [e2] at h7
            obtain ⟨h9, c1, rest, h10, h11⟩ := h7
            cases h10
            refine ⟨.returning, ?_, .back, e3, rfl⟩
            rw [h9, ← h11]
          · rw [e2] at h7
            obtain ⟨c1, rest, y, h10, ry, h11⟩ := h7
            cases h10
            exact ⟨_, h11, .back, e3, rfl⟩
          · rw [e2] at h7
            obtain ⟨c1, rest, y, h10, ry, h11⟩ := h7
            cases h10
            exact ⟨_, h11, .pan v', e3, y, ry, rfl⟩
        obtain ⟨mode', hcs', u', hin, hrl⟩ := hmodes
        rcases g1 with e1 | e1
        · subst e1
          have he : e = .normal := h2
          subst he
          exact ⟨h5, mode', hcs', rv, hrun, rv, rfl, u', s', ρ', hin, hrl, h4, h6⟩
        · subst e1
          have he : e = .ret := h2
          subst he
          exact ⟨h5, mode', hcs', rv, hrun, rv, rfl, u', s', ρ', hin, hrl, h4, h6⟩
  · cases h

theorem leave_go {f : Lv → St → Outs} : ∀ {l : List (Lv × St)} {res : List Out} {u : Lv} {s : St}, leave.go f l = some res → (u, s) ∈ l → ∃ o', f u s = some o' ∧ ∀ x ∈ o', x ∈ res
  | [], _, _, _, _, h => by cases h
  | (u0, s0) :: rest, res, u, s, h, hm => by
    simp only [leave.go] at h
    split at h
    · cases h
    · rename_i a ha
      split at h
      · cases h
        rcases List.mem_cons.1 hm with q | q
        · cases q; exact ⟨_, ha, fun _ h => h⟩
        · cases q
      · split at h
        · cases h
        · rename_i b hb
          cases h
          rcases List.mem_cons.1 hm with q | q
          · cases q; exact ⟨_, ha, fun x h => List.mem_append_left _ h⟩
          · obtain ⟨o', h1, h2⟩ := leave_go hb q
            exact ⟨o', h1, fun x hx => List.mem_append_right _ (h2 x hx)⟩

theorem leaves_sound {call : CallF} (HC : CallOK P G base call) (hm : P.follows .mixedOrders = true) (hn : NoNum P) {m : Nat} {fn : Func} {fr : Fr} {a : Act} {ρ0 : Map} {s0 : St} {w0 : World} {OUTS : List Out} : ∀ (ds : List (AV × List AV)) (u : Lv) (s : St) (outs : List Out), leave P G call m fn fr ds u s = some outs → (∀ x ∈ outs, x ∈ OUTS) →
    ∀ (ρ : Map) (dd : List Deferred) (mode : FrameMode) (w : World), RD ρ ds dd → RL ρ u mode → RF ρ fr a → RM G base ρ s w → Adv base (fun _ => False) ρ0 s0 w0 ρ s w → Leaves P fn a.tmps (CallPost base ρ0 s0 w0 OUTS) dd mode w
  | [], .back, s, outs, h, hsub, ρ, dd, mode, w, rd, rl, rf, rm, hadv => by
    simp only [RD] at rd
    subst rd
    have rl : mode = .returning := rl
    subst rl
    simp only [leave] at h
    split at h
    · rename_i v hv
      cases h
      obtain ⟨u, hu, ru⟩ := result_sound rf rm hv
      exact ⟨u, hu, ρ, .inl ⟨v, s, u, hsub _ (List.mem_singleton.2 rfl), rfl, ru, hadv⟩⟩
    · cases h
  | [], .pan v, s, outs, h, hsub, ρ, dd, mode, w, rd, rl, rf, rm, hadv => by
    simp only [RD] at rd
    subst rd
    obtain ⟨u, ru, hx⟩ := rl
    subst hx
    simp only [leave] at h
    cases h
    exact ⟨ρ, .inr ⟨v, s, u, hsub _ (List.mem_singleton.2 rfl), rfl, ru, hadv⟩⟩
  | d :: ds, u, s, outs, h, hsub, ρ, dd, mode, w, rd, rl, rf, rm, hadv => by
    obtain ⟨d', ds', r1, r2, hdd⟩ := rd
    subst hdd
    simp only [leave] at h
    split at h
    · cases h
    · rename_i l hl
      obtain ⟨fv, cap, f, args, h1, h2, h3⟩ := deferred_sound HC hm hn hl r1 rl rm
      refine ⟨?_, fv, cap, f, args, h1, h2, h3.mono ?_⟩
      · cases u with
        | back => have : mode = .returning := rl; subst this; simp
        | pan v => obtain ⟨_, _, hx⟩ := rl; subst hx; simp
      · rintro e mode' w' ⟨v, he, u', s', ρ', hin, hrl, hrm, hadv'⟩
        subst he
        obtain ⟨o', ho, hs⟩ := leave_go h hin
        exact leaves_sound HC hm hn ds u' s' o' ho (fun x hx => hsub x (hs x hx)) ρ' ds' (settle mode') w' (r2.mono hadv'.st.mono) hrl (rf.mono hadv'.st.mono) hrm (hadv.trans hadv')

theorem ends_spec {call : CallF} {m : Nat} {fn : Func} : ∀ {l : List (Ex × Fr × St)} {res : List Out}, ends P G call m fn l = some res → ∀ e fr s, (e, fr, s) ∈ l →
    ∃ u o', (((e = .normal ∨ e = .ret) ∧ u = .back) ∨ ∃ v, e = .pan v ∧ u = .pan v) ∧ leave P G call m fn fr fr.df u s = some o' ∧ ∀ x ∈ o', x ∈ res
  | [], _, _, e, fr, s, hm => by cases hm
  | (e0, fr0, s0) :: rest, res, h, e, fr, s, hm => by
    simp only [ends] at h
    split at h
    · cases h
    · rename_i a ha
      have hd : ∃ u, (((e0 = .normal ∨ e0 = .ret) ∧ u = Lv.back) ∨ ∃ v, e0 = .pan v ∧ u = .pan v) ∧ leave P G call m fn fr0 fr0.df u s0 = some a := by
        cases e0 with
        | normal => exact ⟨.back, .inl ⟨.inl rfl, rfl⟩, ha⟩
        | ret => exact ⟨.back, .inl ⟨.inr rfl, rfl⟩, ha⟩
        | pan v => exact ⟨.pan v, .inr ⟨v, rfl, rfl⟩, ha⟩
        | exit j => simp at ha
      obtain ⟨u, hu, hl⟩ := hd
      split at h
      · cases h
        rcases List.mem_cons.1 hm with q | q
        · cases q; exact ⟨u, _, hu, hl, fun _ h => h⟩
        · cases q
      · split at h
        · cases h
        · rename_i b hb
          cases h
          rcases List.mem_cons.1 hm with q | q
          · cases q; exact ⟨u, _, hu, hl, fun x h => List.mem_append_left _ h⟩
          · obtain ⟨u', o', h1, h2, h3⟩ := ends_spec hb e fr s q
            exact ⟨u', o', h1, h2, fun x hx => List.mem_append_right _ (h3 x hx)⟩

/-! ### calls -/
/-- What is known without a walk. -/
def XOK (P : Program) (G : Glob) (X : Ext) : Prop :=
  ∀ f args v, X f args = some v → ∀ (ρ : Map) (base : Nat) (w : World) (vs : List Value), RVs ρ args vs → RG G base w → base ≤ w.heap.size → Meets P ((callFunc f vs.toArray).run P w) fun e w' => ∃ u, e = .returned u ∧ RV ρ v u ∧ Keeps (fun _ => False) w w'

theorem RM.keeps {ρ : Map} {s : St} {w w' : World} (r : RM G base ρ s w) (h : Keeps (fun _ => False) w w') : Adv base (fun _ => False) ρ s w ρ s w' := by
  have hblk : ∀ b, b < w.heap.size → w'.heap[b]? = w.heap[b]? := fun b hb => h.block b hb (fun h => h)
  have hrh : RH ρ base (hget s.h) w' := ⟨fun i ab hg hd => by
    obtain ⟨e, ob, h1, h2, h3, h4⟩ := r.rh.blk i ab hg hd
    exact ⟨e, ob, h1, h2, by rw [hblk e.b (r.rh.size hg hd h1)]; exact h3, h4⟩, r.rh.inj⟩
  exact ⟨⟨Mono.refl ρ, ⟨h.os, h.tape, h.output, h.size, fun b hb _ => hblk b hb⟩, hrh, fun b hb => .inl hb⟩, Nat.le_refl _, fun _ _ _ => rfl, r.hi⟩

theorem Meets.mono {r : Result Next} {R R' : Ending → World → Prop} (h : Meets P r R) (hr : ∀ e w, R e w → R' e w) : Meets P r R' := by
  unfold Meets at *
  split at h
  · exact hr _ _ h
  · exact h.mono hr
  · exact h.elim

/-- A CALL. -/
theorem call_sound {X : Ext} (HX : XOK P G X) (hm : P.follows .mixedOrders = true) (hn : NoNum P) (m : Nat) : ∀ n, CallOK P G base (call P G X m n)
  | 0 => fun f args s outs h => by simp [call] at h
  | n + 1 => by
    intro f args s outs h ρ w vs rv rm
    have HC := call_sound HX hm hn m n
    simp only [call] at h
    split at h
    · cases h
    · rename_i fn hfn
      have hfn' : P.funcs[f]? = some fn := by simpa using hfn
      split at h
      · rename_i v hv
        cases h
        refine (HX f args v hv ρ base w vs rv rm.rg rm.bs).mono ?_
        rintro e w' ⟨u, he, ru, hk⟩
        exact ⟨ρ, .inl ⟨v, s, u, List.mem_singleton.2 rfl, he, ru, rm.keeps hk⟩⟩
      · split at h
        · cases h
        · rename_i l hbody
          obtain ⟨c, hc, hwp⟩ := body_sound HC hm hbody rv rm
          rw [callFunc_enter hn hfn' hc]
          refine calls_of_wp_defers hfn' hc fun b k cs => ?_
          obtain ⟨e, a', cs', w', hpost, harr⟩ := hwp cs cs rfl b k trivial
          obtain ⟨x, fr', s', ρ', h1, h2, h3, h4, h5, h6, h7, h8⟩ := hpost
          have hrc := h8 rfl
          rw [hrc] at h7
          have hcs : cs' = cs := h7
          subst hcs
          refine ⟨e, a', w', ?_, harr⟩
          obtain ⟨u, o', hu, hl, hs⟩ := ends_spec h x fr' s' h1
          rcases hu with ⟨hx, hu⟩ | ⟨v, hx, hu⟩
          · subst hu
            have := leaves_sound HC hm hn fr'.df .back s' o' hl hs ρ' a'.defers .returning w' h5 rfl h3 h4 h6
            rcases hx with hx | hx
            · subst hx
              have he : e = .normal := h2
              subst he
              exact this
            · subst hx
              have he : e = .ret := h2
              subst he
              exact this
          · subst hx hu
            obtain ⟨u, ru, he⟩ := h2
            subst he
            exact leaves_sound HC hm hn fr'.df (.pan v) s' o' hl hs ρ' a'.defers _ w' h5 ⟨u, ru, rfl⟩ h3 h4 h6
end Go.Ai
