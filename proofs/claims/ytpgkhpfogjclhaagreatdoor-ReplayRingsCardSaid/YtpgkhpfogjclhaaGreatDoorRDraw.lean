/- A part of the proof of the law ReplayRings. CONDITIONS: those that each theorem names. -/
import Derived.Test.YtpgkhpfogjclhaaGreatDoorRQ
import Derived.Test.YtpgkhpfogjclhaaGreatDoorSPDraw
import Derived.Test.YtpgkhpfogjclhaaGreatDoorLow
/-! A region that draws its order, with all that it may do: looks, new blocks, acts, calls. -/
namespace Go.Ai
open Go
variable {P : Program} {G : Glob} {K : CallF} {m : Nat} {Q : Ex → Fr → St → Prop}
abbrev Rds := List (Nat × Nat × Op × AV)
def DG (P : Program) (G : Glob) (K : CallF) (l : List Oper) (Q : Ex → Fr → St → Prop) : List (Nat × Nat) → Fr → St → Made → Rds → Prop
  | [], fr, s, M, _ => Q .normal (fr.bump l.length) (s.withH (addAll s.h M))
  | (j, b) :: r, fr, s, M, rs => ∃ o, l[j]? = some o ∧
      ((wantedA fr l.toArray o = false ∧ ∃ fr', fr.put o.dst .undef = some fr' ∧ DG P G K l Q r fr' s M rs) ∨
       (wantedA fr l.toArray o = true ∧ clsOf o.op = .pure ∧ ∃ v fr', pureOp P fr o.op = some v ∧ fr.put o.dst v = some fr' ∧ DG P G K l Q r fr' s M rs) ∨
       (wantedA fr l.toArray o = true ∧ clsOf o.op = .read ∧ ∃ v fr', readOp P G fr (addMade b s.h M) o.op = some v ∧ fr.put o.dst v = some fr' ∧ DG P G K l Q r fr' s M ((j, b, o.op, v) :: rs)) ∨
       (wantedA fr l.toArray o = true ∧ clsOf o.op = .alloc ∧ ∃ v blk fr', allocOp P fr (keyOf fr j) o.op = some (v, blk) ∧ hget s.h (keyOf fr j) = none ∧ fr.put o.dst v = some fr' ∧ DG P G K l Q r fr' s ((j, keyOf fr j, blk) :: M) rs) ∨
       (wantedA fr l.toArray o = true ∧ clsOf o.op = .heavy ∧ (∀ t x, o.op ≠ .range t x) ∧ ∃ outs, heavy P K fr (keyOf fr j) (s.withH (addMade b s.h M)) o.op = some outs ∧
          ∀ x ∈ outs, backQ fr o.dst (fun fr' s' => readsOk P G fr s'.h M (readsLeft b rs) = true ∧ asideOk (addMade b s.h M) s'.h M = true ∧ DG P G K l Q r fr' s' M rs) x))
theorem dg_sound {l : List Oper} : ∀ {order : List DE} {js : List (Nat × Nat)} {done : Nat} {fr : Fr} {s : St} {M : Made} {rs : Rds}, order.map (fun e => (e.1, e.2.1)) = js → (∀ e ∈ order, l[e.1]? = some e.2.2.2) → DG P G K l Q js fr s M rs → WR (drawOps P G K l.toArray l.length order done fr s ⟨M, rs⟩) Q
  | [], js, done, fr, s, M, rs, hj, _, hw => by
    subst hj
    simp only [drawOps, wr_one]
    exact hw
  | (i, b, c, o) :: rest, js, done, fr, s, M, rs, hj, hl, hw => by
    subst hj
    simp only [List.map_cons, DG] at hw
    obtain ⟨o', ho, hw⟩ := hw
    have := hl _ List.mem_cons_self
    simp only at this
    rw [this] at ho
    cases ho
    have hl' : ∀ e ∈ rest, l[e.1]? = some e.2.2.2 := fun e he => hl e (List.mem_cons_of_mem _ he)
    rcases hw with ⟨hg, fr', hp, hw⟩ | ⟨hg, hcl, v, fr', h1, hp, hw⟩ | ⟨hg, hcl, v, fr', h1, hp, hw⟩ | ⟨hg, hcl, v, blk, fr', h1, h2, hp, hw⟩ | ⟨hg, hcl, hr, outs, h1, hbk⟩
    · simp only [drawOps, hg, hp, putK, natC_eq]
      exact dg_sound rfl hl' hw
    · simp only [drawOps, hg, dOne, hcl, h1, putV, hp, putK, natC_eq]
      exact dg_sound rfl hl' hw
    · simp only [drawOps, hg, dOne, hcl, h1, dRead, hp, putK, natC_eq]
      exact dg_sound rfl hl' hw
    · simp only [drawOps, hg, dOne, hcl, h1, dAlloc, h2, hp, putK, natC_eq]
      exact dg_sound rfl hl' hw
    · simp only [drawOps, hg, dOne, hcl]
      have e3 : dHeavy P G K o b i done fr (s.withH (addMade b s.h M)) ⟨M, rs⟩ (fun fr s z => natC (Nat.lor done (2 ^ i)) fun d => drawOps P G K l.toArray l.length rest d fr s z) = dHeavy2 P G o b done fr (addMade b s.h M) ⟨M, rs⟩ (fun fr s z => natC (Nat.lor done (2 ^ i)) fun d => drawOps P G K l.toArray l.length rest d fr s z) (heavy P K fr (keyOf fr i) (s.withH (addMade b s.h M)) o.op) := by
        unfold dHeavy
        split
        · rename_i h0; exact absurd h0 (hr _ _)
        · rw [St.withH_eq]
      rw [e3, h1]
      simp only [dHeavy2]
      refine wr_douts (dst := o.dst) (k := fun fr' s' => readsOk P G fr s'.h M (readsLeft b rs) = true ∧ asideOk (addMade b s.h M) s'.h M = true ∧ DG P G K l Q (rest.map fun e => (e.1, e.2.1)) fr' s' M rs) ?_ hbk
      rintro v s' fr' hp ⟨h2, h3, hw⟩
      simp only [h2, h3, hp, putK, natC_eq]
      exact dg_sound rfl hl' hw
section
variable {S : FuncId → List AV → St → Out → Prop} {l : List Oper} {j b : Nat} {js : List (Nat × Nat)} {fr fr' : Fr} {s s' : St} {M : Made} {rs : Rds} {o : Oper} {v : AV} {f : FuncId} {args : List AV}
theorem r_drawG {id : Nat} {F lc n : Nat} {t : T AV} {df : List (AV × List AV)} {rc : Rc} (hj : (theOrder l).map (fun e => (e.1, e.2.1)) = js) (hok : drawOk l (theOrder l) = true) (hk : lc + l.length ≤ 1267650600228229401496703205375)
    (h : DG P G K l Q js ⟨F, lc, n, t, df, rc⟩ s [] []) : WR (code P G K m (.region id l.toArray true) ⟨F, lc, n, t, df, rc⟩ s) Q := by
  have hkk : keysOk ⟨F, lc, n, t, df, rc⟩ l.length = true := by rw [keysOk_mk]; exact decide_eq_true hk
  rw [code]
  unfold region
  simp only [List.toList_toArray, hkk]
  unfold drawn
  simp only [List.toList_toArray, hok]
  exact dg_sound hj theOrder_at h
theorem g_end {F lc lc' n : Nat} {t : T AV} {df : List (AV × List AV)} {rc : Rc} (hl : lc + l.length = lc') (h : Q .normal ⟨F, lc', n, t, df, rc⟩ (s.withH (addAll s.h M))) : DG P G K l Q [] ⟨F, lc, n, t, df, rc⟩ s M rs := by
  show Q .normal (Fr.bump ⟨F, lc, n, t, df, rc⟩ l.length) _
  rw [bump_mk, hl]; exact h
theorem g_undef (ho : l[j]? = some o) (hw : wantedA fr l.toArray o = false) (hp : fr.put o.dst .undef = some fr') (hk : DG P G K l Q js fr' s M rs) : DG P G K l Q ((j, b) :: js) fr s M rs :=
  ⟨o, ho, .inl ⟨hw, fr', hp, hk⟩⟩
theorem g_pure (ho : l[j]? = some o) (hc : clsOf o.op = .pure) (hw : wantedA fr l.toArray o = true) (hv : pureOp P fr o.op = some v) (hp : fr.put o.dst v = some fr') (hk : DG P G K l Q js fr' s M rs) : DG P G K l Q ((j, b) :: js) fr s M rs :=
  ⟨o, ho, .inr (.inl ⟨hw, hc, v, fr', hv, hp, hk⟩)⟩
theorem g_read (ho : l[j]? = some o) (hc : clsOf o.op = .read) (hw : wantedA fr l.toArray o = true) (hv : readOp P G fr (addMade b s.h M) o.op = some v) (hp : fr.put o.dst v = some fr') (hk : DG P G K l Q js fr' s M ((j, b, o.op, v) :: rs)) : DG P G K l Q ((j, b) :: js) fr s M rs :=
  ⟨o, ho, .inr (.inr (.inl ⟨hw, hc, v, fr', hv, hp, hk⟩))⟩
theorem g_alloc {blk : AB} {key : Nat} (ho : l[j]? = some o) (hc : clsOf o.op = .alloc) (hw : wantedA fr l.toArray o = true) (hke : keyOf fr j = key) (hv : allocOp P fr key o.op = some (v, blk)) (hn : hget s.h key = none) (hp : fr.put o.dst v = some fr') (hk : DG P G K l Q js fr' s ((j, key, blk) :: M) rs) : DG P G K l Q ((j, b) :: js) fr s M rs := by
  subst hke
  exact ⟨o, ho, .inr (.inr (.inr (.inl ⟨hw, hc, v, blk, fr', hv, hn, hp, hk⟩)))⟩
def notRng : Op → Bool
  | .range .. => false
  | _ => true
theorem g_act (ho : l[j]? = some o) (hc : clsOf o.op = .heavy) (hr : notRng o.op = true) (hw : wantedA fr l.toArray o = true) (hv : heavy P K fr (keyOf fr j) (s.withH (addMade b s.h M)) o.op = some [.val v s']) (hp : fr.put o.dst v = some fr')
    (h1 : readsOk P G fr s'.h M (readsLeft b rs) = true) (h2 : asideOk (addMade b s.h M) s'.h M = true) (hk : DG P G K l Q js fr' s' M rs) : DG P G K l Q ((j, b) :: js) fr s M rs :=
  ⟨o, ho, .inr (.inr (.inr (.inr ⟨hw, hc, fun t x e => (by rw [e] at hr; cases hr), _, hv, fun x hx => by cases List.mem_singleton.1 hx; exact ⟨fr', hp, h1, h2, hk⟩⟩)))⟩
theorem g_call (ho : l[j]? = some o) (hw : wantedA fr l.toArray o = true) (hc : callOuts P (KU P G S) fr j (s.withH (addMade b s.h M)) o.op = KUf P G S f args (s.withH (addMade b s.h M))) (hs : SndQ P G f args (s.withH (addMade b s.h M)) (S f args (s.withH (addMade b s.h M))))
    (hk : ∀ x, S f args (s.withH (addMade b s.h M)) x → backQ fr o.dst (fun fr' s' => readsOk P G fr s'.h M (readsLeft b rs) = true ∧ asideOk (addMade b s.h M) s'.h M = true ∧ DG P G (KU P G S) l Q js fr' s' M rs) x) : DG P G (KU P G S) l Q ((j, b) :: js) fr s M rs := by
  obtain ⟨outs, e, hq⟩ := ku_hit hs
  rw [e] at hc
  obtain ⟨h1, h2⟩ := callOuts_heavy hc
  refine ⟨o, ho, .inr (.inr (.inr (.inr ⟨hw, h1, fun t x e => ?_, outs, h2, fun x hx => hk x (hq x hx)⟩)))⟩
  rw [e] at hc; cases hc
end
theorem sndQ_wf {f : FuncId} {args : List AV} {s : St} {Q : Out → Prop} (h : Wf s → SndQ P G f args s Q) : SndQ P G f args s Q := by
  by_cases hw : Wf s
  · exact h hw
  · exact ⟨[], snd_wf fun h1 => absurd h1 hw, by simp⟩
/-! ### a clean memory: nothing at the frame's own names -/
theorem sweep_low {h : Heap} {F : Nat} : Low F h (sweep h F) := fun i hi => by rw [hget_sweep, if_pos hi]
theorem sndQ_clean {f : FuncId} {args : List AV} {h : Heap} {F : Nat} {Q : Out → Prop} (hk : ∀ h0, Wf ⟨h0, F⟩ → Low F h h0 → (∀ i, ky F 0 ≤ i → hget h0 i = none) → SndQ P G f args ⟨h0, F⟩ Q) : SndQ P G f args ⟨h, F⟩ Q := by
  by_cases hw : Wf ⟨h, F⟩
  · have hal := alike_sweep hw
    have hw0 : Wf ⟨sweep h F, F⟩ := by
      intro i ab hi hd
      simp only at hi
      rw [hget_sweep] at hi
      split at hi
      · assumption
      · cases hi
    obtain ⟨outs, h1, h2⟩ := hk (sweep h F) hw0 sweep_low fun i hi => by rw [hget_sweep, if_neg (by omega)]
    refine ⟨outs, ?_, h2⟩
    intro base ρ w vs rv rm
    have := h1 base ρ w vs rv (hal.rm rm)
    refine this.mono ?_
    rintro e w' ⟨ρ', ⟨v, s', u, h3, h4, h5, h6⟩ | ⟨v, s', u, h3, h4, h5, h6⟩⟩
    · exact ⟨ρ', .inl ⟨v, s', u, h3, h4, h5, hal.symm.adv (fun _ _ _ => Iff.rfl) h6⟩⟩
    · exact ⟨ρ', .inr ⟨v, s', u, h3, h4, h5, hal.symm.adv (fun _ _ _ => Iff.rfl) h6⟩⟩
  · exact ⟨[], snd_wf fun h1 => absurd h1 hw, by simp⟩
end Go.Ai
