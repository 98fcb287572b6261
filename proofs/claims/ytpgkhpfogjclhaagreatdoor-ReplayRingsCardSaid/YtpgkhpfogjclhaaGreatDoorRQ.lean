/- A part of the proof of the law ReplayRings. CONDITIONS: those that each theorem names. -/
import Derived.Test.YtpgkhpfogjclhaaGreatDoorRFRules
import Derived.Test.YtpgkhpfogjclhaaGreatDoorRFPoint
/-! Calls of which something is said; regions that draw their order, with such calls. -/
namespace Go.Ai
open Go
variable {P : Program} {G : Glob} {K : CallF} {m : Nat} {Q : Ex → Fr → St → Prop}
/-- a table whose outcomes are known by what is said of them -/
noncomputable def KUf (P : Program) (G : Glob) (S : FuncId → List AV → St → Out → Prop) : FuncId → List AV → St → Outs := fun f args s =>
  open Classical in if h : ∃ outs, Snd P G f args s outs ∧ ∀ o ∈ outs, S f args s o then some h.choose else none
noncomputable def KU (P : Program) (G : Glob) (S : FuncId → List AV → St → Out → Prop) : CallF := ⟨KUf P G S, fun _ _ _ => none⟩
theorem ku_fn {S : FuncId → List AV → St → Out → Prop} (f : FuncId) (args : List AV) (s : St) : CallF.fn (KU P G S) f args s = KUf P G S f args s := rfl
theorem ku_ok {S : FuncId → List AV → St → Out → Prop} : KOK P G (KU P G S) := KOK.table fun f args s outs h => by
  unfold KUf at h
  split at h
  · rename_i he
    cases h
    exact he.choose_spec.1
  · cases h
theorem ku_hit {S : FuncId → List AV → St → Out → Prop} {f : FuncId} {args : List AV} {s : St} (h : SndQ P G f args s (S f args s)) : ∃ outs, KUf P G S f args s = some outs ∧ ∀ o ∈ outs, S f args s o := by
  have he : ∃ outs, Snd P G f args s outs ∧ ∀ o ∈ outs, S f args s o := h
  exact ⟨he.choose, by unfold KUf; rw [dif_pos he], he.choose_spec.2⟩
/-- the outcomes of an operation that calls -/
noncomputable def callOuts (P : Program) (K : CallF) (fr : Fr) (i : Nat) (s : St) : Op → Outs
  | .call c => match c.callee with
    | .builtin _ => none
    | _ => callTo K s (target P fr c)
  | _ => none
/-- behind a call -/
def backQ (fr : Fr) (dst : Option Tmp) (k : Fr → St → Prop) : Out → Prop
  | .val v s' => ∃ fr', fr.put dst v = some fr' ∧ k fr' s'
  | .pan _ _ => False
theorem callOuts_one {dst : Option Tmp} {op : Op} {i : Nat} {fr : Fr} {s : St} {outs : List Out} (h : callOuts P K fr i s op = some outs) (k : Fr → St → Res) : oneOp P G K dst op i fr s k = outsTo (fun v s => putK s k (fr.put dst v)) fr outs := by
  unfold callOuts at h
  split at h
  · rename_i c
    split at h
    · cases h
    · rename_i hcal
      have hc : clsOf (.call c) = .heavy := by
        cases hcc : c.callee with
        | builtin b => exact absurd hcc (hcal b)
        | _ => simp [clsOf, clsCall, hcc]
      have hh : heavyCall P K fr (keyOf fr i) s c = some outs := by
        unfold heavyCall
        split
        · rename_i b hb; exact absurd hb (hcal b)
        · exact h
      unfold oneOp
      rw [hc]
      simp only [oneHeavy, oneCall]
      split
      · rename_i hb; exact absurd hb (hcal _)
      · rw [hh]; rfl
  · cases h
theorem wr_outs {f : AV → St → Res} {fr : Fr} {dst : Option Tmp} {k : Fr → St → Prop} (hf : ∀ v s fr', fr.put dst v = some fr' → k fr' s → WR (f v s) Q) : ∀ {outs : List Out}, (∀ o ∈ outs, backQ fr dst k o) → WR (outsTo f fr outs) Q
  | [], _ => ⟨[], rfl, fun _ _ _ h => by cases h⟩
  | .pan v s :: rest, h => (h _ List.mem_cons_self).elim
  | .val v s :: rest, h => by
    obtain ⟨fr', hp, hk⟩ := h _ List.mem_cons_self
    obtain ⟨l1, e1, h1⟩ := hf v s fr' hp hk
    simp only [outsTo, e1]
    cases rest with
    | nil => exact ⟨l1, rfl, h1⟩
    | cons y ys =>
      obtain ⟨l2, e2, h2⟩ := wr_outs hf (outs := y :: ys) fun o ho => h o (List.mem_cons_of_mem _ ho)
      simp only [e2]
      exact ⟨_, rfl, fun e fr s hm => by
        rcases List.mem_append.1 hm with q | q
        · exact h1 e fr s q
        · exact h2 e fr s q⟩
theorem wr_douts {f : AV → St → Res} {fr : Fr} {dst : Option Tmp} {k : Fr → St → Prop} {bh : Bool} (hf : ∀ v s fr', fr.put dst v = some fr' → k fr' s → WR (f v s) Q) : ∀ {outs : List Out}, (∀ o ∈ outs, backQ fr dst k o) → WR (drawOuts f fr bh outs) Q
  | [], _ => ⟨[], rfl, fun _ _ _ h => by cases h⟩
  | .pan v s :: rest, h => (h _ List.mem_cons_self).elim
  | .val v s :: rest, h => by
    obtain ⟨fr', hp, hk⟩ := h _ List.mem_cons_self
    obtain ⟨l1, e1, h1⟩ := hf v s fr' hp hk
    simp only [drawOuts, e1]
    cases rest with
    | nil => exact ⟨l1, rfl, h1⟩
    | cons y ys =>
      obtain ⟨l2, e2, h2⟩ := wr_douts (bh := bh) hf (outs := y :: ys) fun o ho => h o (List.mem_cons_of_mem _ ho)
      simp only [e2]
      exact ⟨_, rfl, fun e fr s hm => by
        rcases List.mem_append.1 hm with q | q
        · exact h1 e fr s q
        · exact h2 e fr s q⟩
section
variable {S : FuncId → List AV → St → Out → Prop} {l : List Oper} {ops : Array Oper} {i : Nat} {fr fr' : Fr} {s s' : St} {o : Oper} {rest : List Oper} {j : Nat} {js : List Nat} {f : FuncId} {args : List AV}
/-- A CALL OF WHICH SOMETHING IS SAID. -/
theorem r_callQ (hw : wantedA fr ops o = true) (hc : callOuts P (KU P G S) fr i s o.op = KUf P G S f args s) (hs : SndQ P G f args s (S f args s))
    (hk : ∀ x, S f args s x → backQ fr o.dst (fun fr' s' => WR (textOps P G (KU P G S) ops rest (i + 1) fr' s') Q) x) : WR (textOps P G (KU P G S) ops (o :: rest) i fr s) Q := by
  obtain ⟨outs, e, hq⟩ := ku_hit hs
  rw [e] at hc
  have : WR (oneOp P G (KU P G S) o.dst o.op i fr s (textOps P G (KU P G S) ops rest (i + 1))) Q := by
    rw [callOuts_one hc]
    refine wr_outs (dst := o.dst) (k := fun fr' s' => WR (textOps P G (KU P G S) ops rest (i + 1) fr' s') Q) ?_ fun x hx => hk x (hq x hx)
    intro v s fr' hp hk
    rw [hp]; exact hk
  obtain ⟨dst, op, ty, pos, after, g⟩ := o
  rw [textOps, hw]
  exact this
/-- a region that draws its order, with calls of which something is said -/
def DQ (P : Program) (G : Glob) (K : CallF) (l : List Oper) (Q : Ex → Fr → St → Prop) : List Nat → Fr → St → Prop
  | [], fr, s => Q .normal (fr.bump l.length) s
  | j :: js, fr, s => ∃ o, l[j]? = some o ∧ ((wantedA fr l.toArray o = false ∧ ∃ fr', fr.put o.dst .undef = some fr' ∧ DQ P G K l Q js fr' s) ∨
      (wantedA fr l.toArray o = true ∧ ∃ fr' s', stepOp P G K o.dst o.op j fr s = some (fr', s') ∧ SameH s.h s'.h ∧ (∀ v, clsOf o.op = .read → readOp P G fr s.h o.op = some v → avEq v v = true) ∧ DQ P G K l Q js fr' s') ∨
      (wantedA fr l.toArray o = true ∧ ∃ outs, callOuts P K fr j s o.op = some outs ∧ ∀ x ∈ outs, backQ fr o.dst (fun fr' s' => SameH s.h s'.h ∧ DQ P G K l Q js fr' s') x))
theorem callOuts_heavy {op : Op} {outs : List Out} (h : callOuts P K fr i s op = some outs) : clsOf op = .heavy ∧ heavy P K fr (keyOf fr i) s op = some outs := by
  unfold callOuts at h
  split at h
  · rename_i c
    split at h
    · cases h
    · rename_i hcal
      have hh : heavyCall P K fr (keyOf fr i) s c = some outs := by
        unfold heavyCall
        split
        · rename_i b hb; exact absurd hb (hcal b)
        · exact h
      refine ⟨?_, hh⟩
      cases hcc : c.callee with
      | builtin b => exact absurd hcc (hcal b)
      | _ => simp [clsOf, clsCall, hcc]
  · cases h
theorem dq_sound {l : List Oper} : ∀ {order : List DE} {js : List Nat} {done : Nat} {fr : Fr} {s : St} {rs : List (Nat × Nat × Op × AV)}, order.map (·.1) = js → (∀ e ∈ order, l[e.1]? = some e.2.2.2) → drawC order = true → SeenOk P G fr s rs order → DQ P G K l Q js fr s → WR (drawOps P G K l.toArray l.length order done fr s ⟨[], rs⟩) Q
  | [], js, done, fr, s, rs, hj, _, _, _, hw => by
    subst hj
    simp only [drawOps, addAll, St.withH_eq, wr_one]
    exact hw
  | (i, b, c, o) :: rest, js, done, fr, s, rs, hj, hl, hc, hso, hw => by
    subst hj
    simp only [List.map_cons, DQ] at hw
    obtain ⟨o', ho, hw⟩ := hw
    have := hl _ List.mem_cons_self
    simp only at this
    rw [this] at ho
    cases ho
    have hl' : ∀ e ∈ rest, l[e.1]? = some e.2.2.2 := fun e he => hl e (List.mem_cons_of_mem _ he)
    have hc' : drawC rest = true := by
      simp only [drawC] at hc
      split at hc
      · cases hc
      · exact hc
      · split at hc
        · exact hc
        · cases hc
      · split at hc
        · exact hc
        · cases hc
    rcases hw with ⟨hg, fr', hp, hw⟩ | ⟨hg, fr', s', hst, hs, hav, hw⟩ | ⟨hg, outs, hco, hbk⟩
    · simp only [drawOps, hg, hp, putK, natC_eq]
      exact dq_sound rfl hl' hc' (SeenOk.put hso hp (SameH.refl _)) hw
    · simp only [drawOps, hg, dOne]
      unfold stepOp at hst
      cases hcl : clsOf o.op with
      | pure =>
        rw [hcl] at hst
        obtain ⟨u, e, hp, rfl⟩ := stV_some hst
        simp only [e, putV, hp, putK, natC_eq]
        exact dq_sound rfl hl' hc' (SeenOk.put hso hp (SameH.refl _)) hw
      | read =>
        rw [hcl] at hst
        obtain ⟨u, e, hp, rfl⟩ := stV_some hst
        have e1 : addMade b s'.h [] = s'.h := rfl
        simp only [e1, e, dRead, hp, putK, natC_eq]
        simp only [drawC, hcl] at hc
        split at hc
        · rename_i h1 h2
          refine dq_sound rfl hl' hc' ?_ hw
          have hso' : SeenOk P G fr s' ((i, b, o.op, u) :: rs) ((i, b, c, o) :: rest) := by
            intro x hx
            rcases List.mem_cons.1 hx with rfl | hx
            · exact ⟨e, h1, h2, hav u hcl e⟩
            · exact hso x hx
          exact SeenOk.put hso' hp (SameH.refl _)
        · cases hc
      | alloc =>
        simp only [drawC, hcl] at hc
        cases hc
      | heavy =>
        rw [hcl] at hst
        obtain ⟨u, e, hp⟩ := stHeavy_some hst
        have e3 : dHeavy P G K o b i done fr (s.withH (addMade b s.h [])) ⟨[], rs⟩ (fun fr s z => natC (Nat.lor done (2 ^ i)) fun d => drawOps P G K l.toArray l.length rest d fr s z) = dHeavy2 P G o b done fr s.h ⟨[], rs⟩ (fun fr s z => natC (Nat.lor done (2 ^ i)) fun d => drawOps P G K l.toArray l.length rest d fr s z) (heavy P K fr (keyOf fr i) s o.op) := by
          simp only [drawC, hcl] at hc
          unfold dHeavy
          split
          · rename_i h0; rw [h0] at hc; simp [notRange] at hc
          · rfl
        rw [e3, e]
        have hso2 : SeenOk P G fr s' rs ((i, b, c, o) :: rest) := fun x hx => by
          obtain ⟨h1, h2, h3, h4⟩ := hso x hx
          exact ⟨readOp_more hs h2 h1, h2, h3, h4⟩
        have e4 : readsOk P G fr s'.h [] (readsLeft b rs) = true := readsOk_of fun x hx => by
          obtain ⟨r, hr⟩ := readsLeft_sub hx
          obtain ⟨h1, _, _, h4⟩ := hso2 _ hr
          exact ⟨h1, h4⟩
        have e5 : asideOk s.h s'.h [] = true := rfl
        simp only [dHeavy2, drawOuts, e4, e5, hp, putK, natC_eq]
        have := dq_sound (done := Nat.lor done (2 ^ i)) (order := rest) rfl hl' hc' (SeenOk.put hso2 hp (SameH.refl _)) hw
        cases hx : drawOps P G K l.toArray l.length rest (Nat.lor done (2 ^ i)) fr' s' ⟨[], rs⟩ with
        | none => rw [hx] at this; exact this
        | some x => rw [hx] at this; exact this
    · simp only [drawOps, hg, dOne]
      obtain ⟨hcl, hh⟩ := callOuts_heavy hco
      simp only [hcl]
      have e3 : dHeavy P G K o b i done fr (s.withH (addMade b s.h [])) ⟨[], rs⟩ (fun fr s z => natC (Nat.lor done (2 ^ i)) fun d => drawOps P G K l.toArray l.length rest d fr s z) = dHeavy2 P G o b done fr s.h ⟨[], rs⟩ (fun fr s z => natC (Nat.lor done (2 ^ i)) fun d => drawOps P G K l.toArray l.length rest d fr s z) (heavy P K fr (keyOf fr i) s o.op) := by
        simp only [drawC, hcl] at hc
        unfold dHeavy
        split
        · rename_i h0; rw [h0] at hc; simp [notRange] at hc
        · rfl
      rw [e3, hh]
      simp only [dHeavy2]
      refine wr_douts (dst := o.dst) (k := fun fr' s' => SameH s.h s'.h ∧ DQ P G K l Q (rest.map (·.1)) fr' s') ?_ hbk
      rintro v s' fr' hp ⟨hs, hw⟩
      have hso2 : SeenOk P G fr s' rs ((i, b, c, o) :: rest) := fun x hx => by
        obtain ⟨h1, h2, h3, h4⟩ := hso x hx
        exact ⟨readOp_more hs h2 h1, h2, h3, h4⟩
      have e4 : readsOk P G fr s'.h [] (readsLeft b rs) = true := readsOk_of fun x hx => by
        obtain ⟨r, hr⟩ := readsLeft_sub hx
        obtain ⟨h1, _, _, h4⟩ := hso2 _ hr
        exact ⟨h1, h4⟩
      have e5 : asideOk s.h s'.h [] = true := rfl
      simp only [e4, e5, hp, putK, natC_eq]
      exact dq_sound (done := Nat.lor done (2 ^ i)) (order := rest) rfl hl' hc' (SeenOk.put hso2 hp (SameH.refl _)) hw
theorem q_end {F lc lc' n : Nat} {t : T AV} {df : List (AV × List AV)} {rc : Rc} (hl : lc + l.length = lc') (h : Q .normal ⟨F, lc', n, t, df, rc⟩ s) : DQ P G K l Q [] ⟨F, lc, n, t, df, rc⟩ s := by
  show Q .normal (Fr.bump ⟨F, lc, n, t, df, rc⟩ l.length) s
  rw [bump_mk, hl]; exact h
theorem q_any (ho : l[j]? = some o) (h : stepAny P G K l.toArray o j fr s = some (fr', s')) (hv : readSelf l.toArray fr fr' o = true) (hs : SameH s.h s'.h) (hk : DQ P G K l Q js fr' s') : DQ P G K l Q (j :: js) fr s := by
  unfold stepAny at h
  cases hw : wantedA fr l.toArray o with
  | true =>
    rw [hw] at h
    simp only at h
    refine ⟨o, ho, .inr (.inl ⟨hw, fr', s', h, hs, fun v h1 h2 => ?_, hk⟩)⟩
    unfold stepOp at h
    rw [h1] at h
    obtain ⟨u, e, hp, _⟩ := stV_some h
    rw [h2] at e
    cases e
    unfold readSelf at hv
    rw [hw, h1] at hv
    cases hd : o.dst with
    | none => rw [hd] at hv; cases hv
    | some d =>
      rw [hd] at hv
      simp only at hv
      rw [hd] at hp
      have := (put_some' hp).2.2 d
      rw [if_pos rfl] at this
      rw [this] at hv
      exact hv
  | false =>
    rw [hw] at h
    simp only at h
    split at h
    · rename_i fr1 hp
      cases h
      exact ⟨o, ho, .inl ⟨hw, fr', hp, hk⟩⟩
    · cases h
theorem q_call (ho : l[j]? = some o) (hw : wantedA fr l.toArray o = true) (hc : callOuts P (KU P G S) fr j s o.op = KUf P G S f args s) (hs : SndQ P G f args s (S f args s))
    (hk : ∀ x, S f args s x → backQ fr o.dst (fun fr' s' => SameH s.h s'.h ∧ DQ P G (KU P G S) l Q js fr' s') x) : DQ P G (KU P G S) l Q (j :: js) fr s := by
  obtain ⟨outs, e, hq⟩ := ku_hit hs
  rw [e] at hc
  exact ⟨o, ho, .inr (.inr ⟨hw, outs, hc, fun x hx => hk x (hq x hx)⟩)⟩
theorem r_drawQ {id : Nat} {F lc n : Nat} {t : T AV} {df : List (AV × List AV)} {rc : Rc} (hj : (theOrder l).map (·.1) = js) (hok : (drawOk l (theOrder l) && drawC (theOrder l)) = true) (hk : lc + l.length ≤ 1267650600228229401496703205375)
    (h : DQ P G K l Q js ⟨F, lc, n, t, df, rc⟩ s) : WR (code P G K m (.region id l.toArray true) ⟨F, lc, n, t, df, rc⟩ s) Q := by
  rw [code]
  unfold region
  simp only [keysOk_mk, hk, decide_true]
  rw [Bool.and_eq_true] at hok
  unfold drawn
  rw [hok.1]
  exact dq_sound hj theOrder_at hok.2 (fun _ h => by cases h) h
end
end Go.Ai
