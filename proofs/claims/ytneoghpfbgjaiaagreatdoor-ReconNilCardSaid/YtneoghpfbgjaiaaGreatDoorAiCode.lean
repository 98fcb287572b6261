/- A part of an evaluator over an abstract heap and of the proof that it is sound for the model. CONDITIONS: those that each theorem names. -/
import Derived.Test.YtneoghpfbgjaiaaGreatDoorAiDraw8
namespace Go.Ai
open Go
variable {P : Program} {G : Glob} {base : Nat}

/-- code of a frame of the kind F -/
def WP (P : Program) (F : Frame → Prop) (c : Code) (Q : Exit → Act → List Frame → World → Prop) (a : Act) (cs : List Frame) (w : World) : Prop :=
  ∀ (b : Frame) (k : List Item), F b → ∃ e a' cs' w', Q e a' cs' w' ∧ Arrives P (lone (b.at a (.code c :: k)) cs w) b k cs' e a' w'

section
variable {F : Frame → Prop} {Q : Exit → Act → List Frame → World → Prop} {a : Act} {cs : List Frame} {w : World}

theorem WP.of_wp {c : Code} (h : c.wp P (fun e a' w' => Q e a' cs w') a w) : WP P F c Q a cs w :=
  fun b k _ => let ⟨e, a', w', q, r⟩ := h b k cs; ⟨e, a', cs, w', q, r⟩
theorem WP.of_wpS {c : Code} (hF : ∀ b, F b → b.kind = .deferred ∧ b.roundOf = none) (h : c.wpS P Q a cs w) : WP P F c Q a cs w :=
  fun b k hb => h b k (hF b hb).1 (hF b hb).2
theorem WP.kind {F' : Frame → Prop} {c : Code} (h : WP P F' c Q a cs w) (hF : ∀ b, F b → F' b) : WP P F c Q a cs w := fun b k hb => h b k (hF b hb)
theorem WP.mono {c : Code} {Q' : Exit → Act → List Frame → World → Prop} (h : WP P F c Q a cs w) (hq : ∀ e a' cs' w', Q e a' cs' w' → Q' e a' cs' w') : WP P F c Q' a cs w :=
  fun b k hb => let ⟨e, a', cs', w', q, r⟩ := h b k hb; ⟨e, a', cs', w', hq _ _ _ _ q, r⟩

theorem WP.seq {x y : Code} (h : WP P F x (Exit.thenS (WP P F y Q) Q) a cs w) : WP P F (.seq x y) Q a cs w := by
  intro b k hb
  obtain ⟨e, a₁, cs₁, w₁, hq, harr⟩ := h b (.code y :: k) hb
  cases e with
  | normal =>
    obtain ⟨e₂, a₂, cs₂, w₂, hq₂, harr₂⟩ := hq b k hb
    exact ⟨e₂, a₂, cs₂, w₂, hq₂, .of_steps (.head step_seq harr) harr₂⟩
  | exit id => exact ⟨_, a₁, cs₁, w₁, hq, .of_steps (.one step_seq) (.pass (x := .code y) rfl (fun _ _ => .inl (by simp)) harr)⟩
  | goto l => exact ⟨_, a₁, cs₁, w₁, hq, .of_steps (.one step_seq) (.pass (x := .code y) rfl (fun _ _ => .inl (by simp)) harr)⟩
  | ret => exact ⟨_, a₁, cs₁, w₁, hq, .of_steps (.one step_seq) (.pass (x := .code y) rfl (fun _ _ => .inl (by simp)) harr)⟩
  | panic ch => exact ⟨_, a₁, cs₁, w₁, hq, .of_steps (.one step_seq) (.pass (x := .code y) rfl (fun _ _ => .inl (by simp)) harr)⟩
  | outgrown => exact ⟨_, a₁, cs₁, w₁, hq, .of_steps (.one step_seq) (.pass (x := .code y) rfl (fun _ _ => .inl (by simp)) harr)⟩
theorem WP.cond {c : Operand} {x y : Code} {t : Bool} (hc : a.eval c = .bool t) (h : WP P F (if t then x else y) Q a cs w) : WP P F (.cond c x y) Q a cs w :=
  fun b k hb => let ⟨e, a', cs', w', q, r⟩ := h b k hb; ⟨e, a', cs', w', q, .of_steps (.one (step_cond hc)) r⟩

def inBlockS (id : Nat) (Q : Exit → Act → List Frame → World → Prop) : Exit → Act → List Frame → World → Prop
  | .exit id', a, cs, w => if id' = id then Q .normal a cs w else Q (.exit id') a cs w
  | e, a, cs, w => Q e a cs w
theorem WP.block {id : Nat} {c : Code} (h : WP P F c (inBlockS id Q) a cs w) : WP P F (.block id c) Q a cs w := by
  intro b k hb
  obtain ⟨e, a₁, cs₁, w₁, hq, harr⟩ := h b (.inBlock id :: k) hb
  cases e with
  | normal => exact ⟨.normal, a₁, cs₁, w₁, hq, .head step_block (Steps.trans harr (.one step_inBlock))⟩
  | exit id' =>
    by_cases hid : id' = id
    · simp only [inBlockS, hid, if_true] at hq
      exact ⟨.normal, a₁, cs₁, w₁, hq, .head step_block (harr k (by simp [exitTo, hid]))⟩
    · simp only [inBlockS, hid, if_false] at hq
      refine ⟨.exit id', a₁, cs₁, w₁, hq, fun k' hk => .head step_block (harr k' ?_)⟩
      have : (id == id') = false := by simp; exact fun h => hid h.symm
      simp [exitTo, this, hk]
  | goto l => exact ⟨_, a₁, cs₁, w₁, hq, fun k' hk => .head step_block (harr k' (by simp [gotoIn, hk]))⟩
  | ret => exact ⟨_, a₁, cs₁, w₁, hq, .of_steps (.one step_block) harr⟩
  | panic ch => exact ⟨_, a₁, cs₁, w₁, hq, .of_steps (.one step_block) harr⟩
  | outgrown => exact ⟨_, a₁, cs₁, w₁, hq, .of_steps (b := b) (k := k) (cs := cs₁) (e := .outgrown) (.one step_block) harr⟩

/-- so many rounds at the most -/
def Rounds (P : Program) (F : Frame → Prop) (c : Code) (Q : Exit → Act → List Frame → World → Prop) : Nat → Act → List Frame → World → Prop
  | 0, _, _, _ => False
  | n + 1, a, cs, w => WP P F c (Exit.thenS (Rounds P F c Q n) Q) a cs w
theorem WP.loop {c : Code} {n : Nat} (h : Rounds P F c Q n a cs w) : WP P F (.loop c) Q a cs w := by
  intro b k hb
  have key : ∀ n a cs w, Rounds P F c Q n a cs w → ∃ e a' cs' w', Q e a' cs' w' ∧ Arrives P (lone (b.at a (.code c :: .inLoop c :: k)) cs w) b k cs' e a' w' := by
    intro n
    induction n with
    | zero => intro a cs w h; exact h.elim
    | succ n ih =>
      intro a cs w h
      obtain ⟨e, a₁, cs₁, w₁, hq, harr⟩ := h b (.inLoop c :: k) hb
      cases e with
      | normal =>
        obtain ⟨e₂, a₂, cs₂, w₂, hq₂, harr₂⟩ := ih a₁ cs₁ w₁ hq
        exact ⟨e₂, a₂, cs₂, w₂, hq₂, .of_steps (Steps.trans harr (.one step_inLoop)) harr₂⟩
      | exit id => exact ⟨_, a₁, cs₁, w₁, hq, .pass (x := .inLoop c) rfl (fun _ _ => .inl (by simp)) harr⟩
      | goto l => exact ⟨_, a₁, cs₁, w₁, hq, .pass (x := .inLoop c) rfl (fun _ _ => .inl (by simp)) harr⟩
      | ret => exact ⟨_, a₁, cs₁, w₁, hq, .pass (x := .inLoop c) rfl (fun _ _ => .inl (by simp)) harr⟩
      | panic ch => exact ⟨_, a₁, cs₁, w₁, hq, .pass (x := .inLoop c) rfl (fun _ _ => .inl (by simp)) harr⟩
      | outgrown => exact ⟨_, a₁, cs₁, w₁, hq, .pass (x := .inLoop c) rfl (fun _ _ => .inl (by simp)) harr⟩
  obtain ⟨e, a', cs', w', hq, harr⟩ := key n a cs w h
  exact ⟨e, a', cs', w', hq, .of_steps (.one step_loop) harr⟩
end

theorem bindR_go {f : Ex → Fr → St → Res} : ∀ {l res : List (Ex × Fr × St)} {e : Ex} {fr : Fr} {s : St}, bindR.go f l = some res → (e, fr, s) ∈ l → ∃ o', f e fr s = some o' ∧ ∀ x ∈ o', x ∈ res
  | [], _, _, _, _, _, h => by cases h
  | (e0, fr0, s0) :: rest, res, e, fr, s, h, hm => by
    simp only [bindR.go] at h
    split at h
    · cases h
    · rename_i a ha
      split at h
      · cases h
        rcases List.mem_cons.1 hm with q | q
        · cases q; exact ⟨_, ha, fun _ h => h⟩
        · cases q
      · split at h
        · cases h
        · rename_i b hb
          cases h
          rcases List.mem_cons.1 hm with q | q
          · cases q; exact ⟨_, ha, fun x h => List.mem_append_left _ h⟩
          · obtain ⟨o', h1, h2⟩ := bindR_go hb q
            exact ⟨o', h1, fun x hx => List.mem_append_right _ (h2 x hx)⟩
theorem bindR_spec {f : Ex → Fr → St → Res} {r : Res} {res : List (Ex × Fr × St)} (h : bindR r f = some res) : ∃ l, r = some l ∧ ∀ e fr s, (e, fr, s) ∈ l → ∃ o', f e fr s = some o' ∧ ∀ x ∈ o', x ∈ res := by
  unfold bindR at h
  split at h
  · cases h
  · rename_i l
    exact ⟨l, rfl, fun e fr s hm => bindR_go h hm⟩

section
variable {cs0 : List Frame}
theorem Post.trans {fno : Nat} {rc0 : Rc} {ρ0 ρ : Map} {s0 s : St} {w0 w : World} {fr : Fr} {outs OUTS : List (Ex × Fr × St)} {e : Exit} {a' : Act} {cs' : List Frame} {w' : World} (hadv : Adv base (Own fno) ρ0 s0 w0 ρ s w) (hf : fr.fno = fno) (hF : ∀ b, FrOK rc0 b → FrOK fr.rc b) (hn : rc0 = .no → fr.rc = .no)
    (h : Post G base cs0 fr.fno fr.rc ρ s w outs e a' cs' w') (hs : ∀ x ∈ outs, x ∈ OUTS) : Post G base cs0 fno rc0 ρ0 s0 w0 OUTS e a' cs' w' := by
  obtain ⟨x, fr', s', ρ', h1, h2, h3, h4, h5, h6, h7, h8⟩ := h
  rw [hf] at h4
  exact ⟨x, fr', s', ρ', hs _ h1, h2, h3, hadv.trans h4, h5.trans hf, h6, fun b hb => h7 b (hF b hb), fun hh => h8 (hn hh)⟩

theorem keysOk_spec {fr : Fr} {n : Nat} (h : keysOk fr n = true) : fr.lc + n < KK := by
  have h : fr.lc + n ≤ 16777215 := by
    unfold keysOk at h
    exact Nat.le_of_ble_eq_true h
  unfold KK; omega

/-- A REGION. -/
theorem region_sound {call : CallF} (HC : CallOK P G base call) (hm : P.follows .mixedOrders = true) {id : Nat} {ops : Array Oper} {draw : Bool} {fr : Fr} {s : St} {ρ : Map} {a : Act} {cs : List Frame} {w : World} {outs : List (Ex × Fr × St)} (h : region P G call ops draw fr s = some outs)
    (rs : RS G base 0 ρ fr s a w) (hcs : RCx ρ fr.rc cs0 cs) : WP P (FrOK fr.rc) (.region id ops draw) (Post G base cs0 fr.fno fr.rc ρ s w outs) a cs w := by
  unfold region at h
  split at h
  · rename_i hk
    have hk := keysOk_spec hk
    simp only [Array.length_toList] at hk
    have hadv := Adv.refl (ok := Own fr.fno) rs.rm.rh rs.rm.hi
    have hr : List.range ops.size = List.range' 0 ops.toList.length := by rw [List.range_eq_range', Array.length_toList]
    cases hrc : fr.rc with
    | no =>
      rw [hrc] at hcs
      have hcs' : cs = cs0 := hcs
      subst hcs'
      refine WP.of_wp (wp_region ?_)
      rw [hr]
      exact text_sound HC ops.toList 0 fr s outs h (by simp) (fun _ h => h) hk hrc rfl ρ a w rs hadv
    | idle =>
      refine WP.of_wpS (fun b hb => hb) (wpS_region ?_)
      rw [hr, ← hrc]
      exact text_soundS HC ops.toList 0 fr s outs h (by simp) (fun _ h => h) hk rfl (by rw [hrc]; simp) (fun h => h) ρ a cs w rs hadv hcs
    | live v d =>
      refine WP.of_wpS (fun b hb => hb) (wpS_region ?_)
      rw [hr, ← hrc]
      exact text_soundS HC ops.toList 0 fr s outs h (by simp) (fun _ h => h) hk rfl (by rw [hrc]; simp) (fun h => h) ρ a cs w rs hadv hcs
  · rename_i hk
    have hk := keysOk_spec hk
    simp only [Array.length_toList] at hk
    exact WP.of_wp (drawn_sound HC hm h hk rs hcs)
  · cases h

/-- THE CODE. -/
theorem code_sound {call : CallF} (HC : CallOK P G base call) (hm : P.follows .mixedOrders = true) (m : Nat) : ∀ (c : Code) (fr : Fr) (s : St) (outs : List (Ex × Fr × St)), code P G call m c fr s = some outs →
    ∀ (ρ : Map) (a : Act) (cs : List Frame) (w : World), RS G base 0 ρ fr s a w → RCx ρ fr.rc cs0 cs → WP P (FrOK fr.rc) c (Post G base cs0 fr.fno fr.rc ρ s w outs) a cs w := by
  intro c
  have one : ∀ (x : Ex) (e : Exit) (fr : Fr) (s : St) (outs : List (Ex × Fr × St)), offOf x = 0 → some [(x, fr, s)] = some outs → ∀ (ρ : Map) (a : Act) (cs : List Frame) (w : World), RX ρ x e → RS G base 0 ρ fr s a w → RCx ρ fr.rc cs0 cs → Post G base cs0 fr.fno fr.rc ρ s w outs e a cs w := by
    intro x e fr s outs h0 h ρ a cs w hx rs hcs
    cases h
    exact ⟨x, fr, s, ρ, List.mem_singleton.2 rfl, hx, by rw [h0]; exact rs, Adv.refl rs.rm.rh rs.rm.hi, rfl, hcs, fun _ h => h, fun h => h⟩
  induction c with
  | skip => intro fr s outs h ρ a cs w rs hcs; exact WP.of_wp (wp_skip (one .normal .normal fr s outs rfl h ρ a cs w rfl rs hcs))
  | label l => intro fr s outs h ρ a cs w rs hcs; exact WP.of_wp (wp_label (one .normal .normal fr s outs rfl h ρ a cs w rfl rs hcs))
  | region id ops draw => intro fr s outs h ρ a cs w rs hcs; exact region_sound HC hm h rs hcs
  | seq x y ihx ihy =>
    intro fr s outs h ρ a cs w rs hcs
    rw [code] at h
    obtain ⟨l, hl, hall⟩ := bindR_spec h
    refine WP.seq ((ihx fr s l hl ρ a cs w rs hcs).mono ?_)
    rintro e a' cs' w' ⟨x', fr', s', ρ', h1, h2, h3, h4, h5, h6, h7, h8⟩
    obtain ⟨o', ho, hsub⟩ := hall x' fr' s' h1
    cases x' with
    | normal =>
      have he : e = .normal := h2
      subst he
      exact ((ihy fr' s' o' ho ρ' a' cs' w' h3 h6).kind h7).mono fun e2 a2 cs2 w2 hp => hp.trans h4 h5 h7 h8 hsub
    | exit j =>
      have he : e = .exit j := h2
      subst he
      cases ho
      exact ⟨_, fr', s', ρ', hsub _ (List.mem_singleton.2 rfl), rfl, h3, h4, h5, h6, h7, h8⟩
    | ret =>
      have he : e = .ret := h2
      subst he
      cases ho
      exact ⟨_, fr', s', ρ', hsub _ (List.mem_singleton.2 rfl), rfl, h3, h4, h5, h6, h7, h8⟩
    | pan v =>
      obtain ⟨u, ru, he⟩ := h2
      subst he
      cases ho
      exact ⟨_, fr', s', ρ', hsub _ (List.mem_singleton.2 rfl), ⟨u, ru, rfl⟩, h3, h4, h5, h6, h7, h8⟩
  | cond c x y ihx ihy =>
    intro fr s outs h ρ a cs w rs hcs
    rw [code] at h
    split at h
    · rename_i hc
      have := rs.rf.ev hc
      exact WP.cond (t := true) this (ihx fr s outs h ρ a cs w rs hcs)
    · rename_i hc
      have := rs.rf.ev hc
      exact WP.cond (t := false) this (ihy fr s outs h ρ a cs w rs hcs)
    · cases h
  | block id x ih =>
    intro fr s outs h ρ a cs w rs hcs
    rw [code] at h
    obtain ⟨l, hl, hall⟩ := bindR_spec h
    refine WP.block ((ih fr s l hl ρ a cs w rs hcs).mono ?_)
    rintro e a' cs' w' ⟨x', fr', s', ρ', h1, h2, h3, h4, h5, h6, h7, h8⟩
    obtain ⟨o', ho, hsub⟩ := hall x' fr' s' h1
    cases x' with
    | normal =>
      have he : e = .normal := h2
      subst he
      cases ho
      exact ⟨_, fr', s', ρ', hsub _ (List.mem_singleton.2 rfl), rfl, h3, h4, h5, h6, h7, h8⟩
    | exit j =>
      have he : e = .exit j := h2
      subst he
      simp only at ho
      simp only [inBlockS]
      split at ho
      · rename_i hj
        cases ho
        rw [if_pos (Nat.eq_of_beq_eq_true hj)]
        exact ⟨_, fr', s', ρ', hsub _ (List.mem_singleton.2 rfl), rfl, h3, h4, h5, h6, h7, h8⟩
      · rename_i hj
        cases ho
        rw [if_neg (by intro e; subst e; simp at hj)]
        exact ⟨_, fr', s', ρ', hsub _ (List.mem_singleton.2 rfl), rfl, h3, h4, h5, h6, h7, h8⟩
    | ret =>
      have he : e = .ret := h2
      subst he
      cases ho
      exact ⟨_, fr', s', ρ', hsub _ (List.mem_singleton.2 rfl), rfl, h3, h4, h5, h6, h7, h8⟩
    | pan v =>
      obtain ⟨u, ru, he⟩ := h2
      subst he
      cases ho
      exact ⟨_, fr', s', ρ', hsub _ (List.mem_singleton.2 rfl), ⟨u, ru, rfl⟩, h3, h4, h5, h6, h7, h8⟩
  | loop x ih =>
    intro fr s outs h ρ a cs w rs hcs
    rw [code] at h
    refine WP.loop (n := m) ?_
    have rounds : ∀ (n : Nat) (fr : Fr) (s : St) (outs : List (Ex × Fr × St)), iter (code P G call m x) n fr s = some outs → ∀ (ρ : Map) (a : Act) (cs : List Frame) (w : World), RS G base 0 ρ fr s a w → RCx ρ fr.rc cs0 cs →
        ∀ (F : Frame → Prop) (Q : Exit → Act → List Frame → World → Prop), (∀ b, F b → FrOK fr.rc b) → (∀ e a' cs' w', Post G base cs0 fr.fno fr.rc ρ s w outs e a' cs' w' → Q e a' cs' w') → Rounds P F x Q n a cs w := by
      intro n
      induction n with
      | zero => intro fr s outs h; simp [iter] at h
      | succ n ihn =>
        intro fr s outs h ρ a cs w rs hcs F Q hF hQ
        rw [iter] at h
        obtain ⟨l, hl, hall⟩ := bindR_spec h
        refine ((ih fr s l hl ρ a cs w rs hcs).kind hF).mono ?_
        rintro e a' cs' w' ⟨x', fr', s', ρ', h1, h2, h3, h4, h5, h6, h7, h8⟩
        obtain ⟨o', ho, hsub⟩ := hall x' fr' s' h1
        cases x' with
        | normal =>
          have he : e = .normal := h2
          subst he
          exact ihn fr' s' o' ho ρ' a' cs' w' h3 h6 F Q (fun b hb => h7 b (hF b hb)) fun e2 a2 cs2 w2 hp => hQ _ _ _ _ (hp.trans h4 h5 h7 h8 hsub)
        | exit j =>
          have he : e = .exit j := h2
          subst he
          cases ho
          exact hQ _ _ _ _ ⟨_, fr', s', ρ', hsub _ (List.mem_singleton.2 rfl), rfl, h3, h4, h5, h6, h7, h8⟩
        | ret =>
          have he : e = .ret := h2
          subst he
          cases ho
          exact hQ _ _ _ _ ⟨_, fr', s', ρ', hsub _ (List.mem_singleton.2 rfl), rfl, h3, h4, h5, h6, h7, h8⟩
        | pan v =>
          obtain ⟨u, ru, he⟩ := h2
          subst he
          cases ho
          exact hQ _ _ _ _ ⟨_, fr', s', ρ', hsub _ (List.mem_singleton.2 rfl), ⟨u, ru, rfl⟩, h3, h4, h5, h6, h7, h8⟩
    exact rounds m fr s outs h ρ a cs w rs hcs _ _ (fun _ h => h) (fun _ _ _ _ h => h)
  | exit id => intro fr s outs h ρ a cs w rs hcs; exact WP.of_wp (wp_exit (one (.exit id) (.exit id) fr s outs rfl h ρ a cs w rfl rs hcs))
  | ret => intro fr s outs h ρ a cs w rs hcs; exact WP.of_wp (wp_ret (one .ret .ret fr s outs rfl h ρ a cs w rfl rs hcs))
  | _ => intro fr s outs h; simp [code] at h
end
end Go.Ai
