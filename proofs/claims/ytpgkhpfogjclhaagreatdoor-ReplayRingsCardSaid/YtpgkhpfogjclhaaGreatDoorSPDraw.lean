/- A part of the proof of the law ReplayRings. CONDITIONS: those that each theorem names. -/
import Derived.Test.YtpgkhpfogjclhaaGreatDoorRFRules
import Derived.Test.YtpgkhpfogjclhaaGreatDoorRFPoint
/-! A region that draws its order: one new block of its own, appends; what is looked at lies in the memory that the region found. -/
namespace Go.Ai
open Go
variable {P : Program} {G : Glob} {K : CallF} {m : Nat} {Q : Ex → Fr → St → Prop}

/-! ### a memory without what is forgotten -/
noncomputable def T.filt {α : Type} : T α → (Nat → Bool) → T α
  | .e, _ => .e
  | .n l v r, p => .n (T.filt l fun j => p (2 * j + 1)) (match p 0 with | true => v | false => none) (T.filt r fun j => p (2 * j + 2))
theorem T.get_filt {α : Type} : ∀ (t : T α) (p : Nat → Bool) (k : Nat), (T.filt t p).get k = if p k = true then t.get k else none
  | .e, p, k => by simp [T.filt, T.get_e]
  | .n l v r, p, k => by
    rw [T.filt, T.get_n, T.get_n]
    by_cases h0 : k = 0
    · subst h0
      simp only [if_true]
      cases p 0 <;> simp
    · rw [if_neg h0, if_neg h0]
      by_cases h1 : k % 2 = 1
      · rw [if_pos h1, if_pos h1, T.get_filt l, show 2 * (k / 2) + 1 = k by omega]
      · rw [if_neg h1, if_neg h1, T.get_filt r, show 2 * (k / 2 - 1) + 2 = k by omega]
noncomputable def sweep (h : Heap) (F : Nat) : Heap := T.filt h fun j => Nat.blt j F
theorem hget_sweep (h : Heap) (F i : Nat) : hget (sweep h F) i = if i < ky F 0 then hget h i else none := by
  unfold hget sweep
  rw [T.get_filt]
  have key : Nat.blt (Nat.div i 1267650600228229401496703205376) F = true ↔ i < ky F 0 := by
    rw [Nat.blt_eq]
    show i / 1267650600228229401496703205376 < F ↔ _
    unfold ky
    rw [Nat.div_lt_iff_lt_mul (by decide)]
    omega
  by_cases h : i < ky F 0
  · rw [if_pos (key.2 h), if_pos h]
  · rw [if_neg (fun e => h (key.1 e)), if_neg h]
/-- the same memory: the same blocks that are there -/
def AlikeH (h h' : Heap) : Prop := ∀ i ab, ab ≠ .dead → (hget h i = some ab ↔ hget h' i = some ab)
theorem AlikeH.symm {h h' : Heap} (a : AlikeH h h') : AlikeH h' h := fun i ab hd => (a i ab hd).symm
theorem alike_sweep {h : Heap} {F : Nat} (hw : Wf ⟨h, F⟩) : AlikeH h (sweep h F) := by
  intro i ab hd
  rw [hget_sweep]
  constructor
  · intro hi
    rw [if_pos (hw i ab hi hd)]; exact hi
  · intro hi
    split at hi
    · exact hi
    · cases hi
theorem AlikeH.hset {h h' : Heap} (a : AlikeH h h') (k : Nat) (b : AB) : AlikeH (hset h k b) (hset h' k b) := by
  intro i ab hd
  rw [hget_hset, hget_hset]
  split
  · exact Iff.rfl
  · exact a i ab hd
theorem AlikeH.live {h h' : Heap} (a : AlikeH h h') {i : Nat} (l : live (hget h) i) : live (hget h') i := by
  obtain ⟨ab, h1, h2⟩ := l
  exact ⟨ab, (a i ab h2.nd).1 h1, h2⟩
theorem AlikeH.rh {h h' : Heap} (a : AlikeH h h') {ρ : Map} {base : Nat} {w : World} (r : RH ρ base (hget h) w) : RH ρ base (hget h') w :=
  ⟨fun i ab hi hd => r.blk i ab ((a i ab hd).2 hi) hd, fun i j e e' li lj => r.inj i j e e' (a.symm.live li) (a.symm.live lj)⟩
theorem AlikeH.rm {h h' : Heap} {F : Nat} (a : AlikeH h h') {ρ : Map} {base : Nat} {w : World} (r : RM G base ρ ⟨h, F⟩ w) : RM G base ρ ⟨h', F⟩ w := ⟨a.rh r.rh, r.rg, r.bs, r.hi⟩
theorem AlikeH.owns {h h' : Heap} (a : AlikeH h h') {ρ : Map} {b : Nat} (o : owns ρ (hget h) b) : owns ρ (hget h') b := by
  obtain ⟨i, e, l, h1, h2⟩ := o
  exact ⟨i, e, a.live l, h1, h2⟩
theorem AlikeH.adv {h h' h1 h1' : Heap} {F F1 base : Nat} (a : AlikeH h h') (a1 : AlikeH h1 h1') {ρ ρ1 : Map} {w w1 : World} (v : Adv base (fun _ => False) ρ ⟨h, F⟩ w ρ1 ⟨h1, F1⟩ w1) : Adv base (fun _ => False) ρ ⟨h', F⟩ w ρ1 ⟨h1', F1⟩ w1 :=
  ⟨⟨v.st.mono, ⟨v.st.keeps.os, v.st.keeps.tape, v.st.keeps.output, v.st.keeps.size, fun b hb hn => v.st.keeps.block b hb fun o => hn (a.owns o)⟩, a1.rh v.st.rh, fun b hb => (v.st.grow b (a1.symm.owns hb)).imp (fun o => a.owns o) id⟩, v.fc, v.keep, v.hi⟩
/-- what is forgotten may be thought away -/
theorem snd_sweep {f : FuncId} {args : List AV} {h : Heap} {F : Nat} {outs : Heap → List Out} (ho : ∀ h1 h2, AlikeH h1 h2 → ∀ v s, Out.val v s ∈ outs h1 → ∃ s', Out.val v s' ∈ outs h2 ∧ s'.fc = s.fc ∧ AlikeH s.h s'.h)
    (hp : ∀ h1 v s, Out.pan v s ∉ outs h1)
    (hs : (∀ i, ky F 0 ≤ i → hget (sweep h F) i = none) → SameH h (sweep h F) → Snd P G f args ⟨sweep h F, F⟩ (outs (sweep h F))) : Snd P G f args ⟨h, F⟩ (outs h) := by
  refine snd_wf fun hw => ?_
  intro base ρ w vs rv rm
  have al := alike_sweep hw
  have := hs (fun i hi => by rw [hget_sweep, if_neg (by omega)]) (fun i ab h1 h2 => (al i ab h2).1 h1) base ρ w vs rv (al.rm rm)
  refine this.mono ?_
  rintro e w' ⟨ρ', ⟨v, s', u, h1, h2, h3, h4⟩ | ⟨v, s', u, h1, h2, h3, h4⟩⟩
  · obtain ⟨s2, g1, g2, g3⟩ := ho _ _ al.symm v s' h1
    obtain ⟨hh, ff⟩ := s'
    obtain ⟨hh2, ff2⟩ := s2
    simp only at g2 g3
    subst g2
    exact ⟨ρ', .inl ⟨v, _, u, g1, h2, h3, al.symm.adv g3 h4⟩⟩
  · exact absurd h1 (hp _ _ _)

/-! ### the walk along the order -/
/-- at most one operation that makes a block is there, number i0; all that act stand behind it -/
noncomputable def drawD (i0 : Nat) : List DE → Bool
  | [] => true
  | e :: r => match clsOf e.2.2.2.op with
    | .alloc => match Nat.beq e.1 i0 with
      | true => drawD i0 r
      | false => false
    | .pure => drawD i0 r
    | .read => match rdOk e.2.2.2.op, freshFor e.2.2.2.op (e :: r) with
      | true, true => drawD i0 r
      | _, _ => false
    | .heavy => match notRange e.2.2.2.op, e.2.1.testBit i0 with
      | true, true => drawD i0 r
      | _, _ => false
noncomputable def there' (h : Heap) (k : Nat) : Bool := (hget h k).isSome
noncomputable def withPend (s : St) : Option (Nat × AB) → St
  | some (k, blk) => ⟨hset s.h k blk, s.fc⟩
  | none => s
def doneOf (dn : Option Nat) : Option (Nat × AB) → Option Nat
  | some (k, _) => some k
  | none => dn
def isThere (h : Heap) : Option Nat → Prop
  | some k => there' h k = true
  | none => True
/-- h0: the memory that the region found; the new block, where it isn't there yet; its name, where it is -/
def DK (P : Program) (G : Glob) (K : CallF) (l : List Oper) (h0 : Heap) (Q : Ex → Fr → St → Prop) : List Nat → Option (Nat × AB) → Option Nat → Fr → St → Prop
  | [], pend, _, fr, s => pend = none ∧ Q .normal (fr.bump l.length) s
  | j :: js, pend, done, fr, s => ∃ o, l[j]? = some o ∧ ((wantedA fr l.toArray o = false ∧ ∃ fr', fr.put o.dst .undef = some fr' ∧ DK P G K l h0 Q js pend done fr' s) ∨
      (wantedA fr l.toArray o = true ∧ match clsOf o.op with
        | .pure => ∃ fr' v, pureOp P fr o.op = some v ∧ fr.put o.dst v = some fr' ∧ DK P G K l h0 Q js pend done fr' s
        | .read => ∃ fr' v, readOp P G fr h0 o.op = some v ∧ avEq v v = true ∧ fr.put o.dst v = some fr' ∧ DK P G K l h0 Q js pend done fr' s
        | .alloc => pend = none ∧ done = none ∧ ∃ fr' v blk, allocOp P fr (keyOf fr j) o.op = some (v, blk) ∧ hget s.h (keyOf fr j) = none ∧ fr.put o.dst v = some fr' ∧ DK P G K l h0 Q js (some (keyOf fr j, blk)) none fr' s
        | .heavy => ∃ fr' v s', heavy P K fr (keyOf fr j) (withPend s pend) o.op = some [.val v s'] ∧ fr.put o.dst v = some fr' ∧ SameH h0 s'.h ∧
            isThere s'.h (doneOf done pend) ∧ DK P G K l h0 Q js none (doneOf done pend) fr' s'))
/-- the list of what was made, as the run keeps it -/
def MadeIs (i0 : Nat) (h : Heap) (pend : Option (Nat × AB)) (done : Option Nat) (M : Made) : Prop :=
  match pend, done with
  | some (k, blk), _ => M = [(i0, k, blk)] ∧ hget h k = none
  | none, some k => ∃ blk, M = [(i0, k, blk)] ∧ there' h k = true
  | none, none => M = []
theorem SeenK.put {fr fr' : Fr} {h0 : Heap} {fc : Nat} {rs : List (Nat × Nat × Op × AV)} {e : DE} {rest : List DE} {v : AV} (h : SeenOk P G fr ⟨h0, fc⟩ rs (e :: rest)) (hp : fr.put e.2.2.2.dst v = some fr') : SeenOk P G fr' ⟨h0, fc⟩ rs rest := SeenOk.put h hp (SameH.refl _)
theorem addMade_there {i0 b k : Nat} {h : Heap} {blk : AB} (ht : there' h k = true) : addMade b h [(i0, k, blk)] = h := by
  unfold there' at ht
  unfold addMade
  cases hb : b.testBit i0 with
  | false => rfl
  | true =>
    cases hh : hget h k with
    | none => rw [hh] at ht; cases ht
    | some x => rfl
theorem addMade_same {i0 b k : Nat} {h h0 : Heap} {blk : AB} (hs : SameH h0 h) (hn : hget h k = none) : SameH h0 (addMade b h [(i0, k, blk)]) := by
  unfold addMade
  cases hb : b.testBit i0 with
  | false => exact hs
  | true =>
    simp only [hn, addMade, hsetC_eq]
    intro i ab hi hd
    rw [hget_hset]
    split
    · rename_i e; subst e
      have := hs i ab hi hd
      rw [hn] at this; cases this
    · exact hs i ab hi hd
theorem dk_sound {l : List Oper} {i0 : Nat} {h0 : Heap} {c0 : Nat} : ∀ {order : List DE} {js : List Nat} {done : Nat} {fr : Fr} {s : St} {pend : Option (Nat × AB)} {dn : Option Nat} {M : Made} {rs : List (Nat × Nat × Op × AV)}, order.map (·.1) = js → (∀ e ∈ order, l[e.1]? = some e.2.2.2) → drawD i0 order = true → SameH h0 s.h → MadeIs i0 s.h pend dn M → SeenOk P G fr ⟨h0, c0⟩ rs order → DK P G K l h0 Q js pend dn fr s → WR (drawOps P G K l.toArray l.length order done fr s ⟨M, rs⟩) Q
  | [], js, done, fr, s, pend, dn, M, rs, hj, _, _, _, hM, _, hw => by
    subst hj
    obtain ⟨rfl, hw⟩ := hw
    have e1 : addAll s.h M = s.h := by
      unfold MadeIs at hM
      cases dn with
      | none => simp only at hM; subst hM; rfl
      | some k =>
        obtain ⟨blk, rfl, ht⟩ := hM
        unfold there' at ht
        unfold addAll
        cases hh : hget s.h k with
        | none => rw [hh] at ht; cases ht
        | some x => rfl
    simp only [drawOps, e1, St.withH_eq, wr_one]
    exact hw
  | (i, b, c, o) :: rest, js, done, fr, s, pend, dn, M, rs, hj, hl, hc, hsm, hM, hso, hw => by
    subst hj
    simp only [List.map_cons, DK] at hw
    obtain ⟨o', ho, hw⟩ := hw
    have := hl _ List.mem_cons_self
    simp only at this
    rw [this] at ho
    cases ho
    have hl' : ∀ e ∈ rest, l[e.1]? = some e.2.2.2 := fun e he => hl e (List.mem_cons_of_mem _ he)
    have hc' : drawD i0 rest = true := by
      simp only [drawD] at hc
      split at hc
      · split at hc
        · exact hc
        · cases hc
      · exact hc
      · split at hc
        · exact hc
        · cases hc
      · split at hc
        · exact hc
        · cases hc
    rcases hw with ⟨hg, fr', hp, hw⟩ | ⟨hg, hw⟩
    · simp only [drawOps, hg, hp, putK, natC_eq]
      exact dk_sound rfl hl' hc' hsm hM (SeenK.put hso hp) hw
    · simp only [drawOps, hg, dOne]
      cases hcl : clsOf o.op with
      | pure =>
        rw [hcl] at hw
        obtain ⟨fr', v, e, hp, hw⟩ := hw
        simp only [e, putV, hp, putK, natC_eq]
        exact dk_sound rfl hl' hc' hsm hM (SeenK.put hso hp) hw
      | read =>
        rw [hcl] at hw
        obtain ⟨fr', u, e, hav, hp, hw⟩ := hw
        simp only [drawD, hcl] at hc
        split at hc
        · rename_i h1 h2
          have hmore : SameH h0 (addMade b s.h M) := by
            unfold MadeIs at hM
            cases pend with
            | some p => obtain ⟨k, blk⟩ := p; obtain ⟨rfl, hn⟩ := hM; exact addMade_same hsm hn
            | none =>
              cases dn with
              | some k => obtain ⟨blk, rfl, ht⟩ := hM; rw [addMade_there ht]; exact hsm
              | none => simp only at hM; subst hM; exact hsm
          rw [readOp_more hmore h1 e]
          simp only [dRead, hp, putK, natC_eq]
          refine dk_sound (c0 := c0) rfl hl' hc' hsm hM ?_ hw
          have hso' : SeenOk P G fr ⟨h0, c0⟩ ((i, b, o.op, u) :: rs) ((i, b, c, o) :: rest) := by
            intro x hx
            rcases List.mem_cons.1 hx with rfl | hx
            · exact ⟨e, h1, h2, hav⟩
            · exact hso x hx
          exact SeenK.put hso' hp
        · cases hc
      | alloc =>
        rw [hcl] at hw
        obtain ⟨rfl, rfl, fr', v, blk, e, hn, hp, hw⟩ := hw
        have hM0 : M = [] := hM
        subst hM0
        simp only [drawD, hcl] at hc
        split at hc
        · rename_i hi
          have hi := Nat.eq_of_beq_eq_true hi
          subst hi
          simp only [e, dAlloc, hn, hp, putK, natC_eq]
          have hM' : MadeIs i s.h (some (keyOf fr i, blk)) none [(i, keyOf fr i, blk)] := ⟨rfl, hn⟩
          exact dk_sound rfl hl' hc' hsm hM' (SeenK.put hso hp) hw
        · cases hc
      | heavy =>
        rw [hcl] at hw
        obtain ⟨fr', u, s', e, hp, hs, hth, hw⟩ := hw
        simp only [drawD, hcl] at hc
        split at hc
        · rename_i hnr htb
          have e0 : s.withH (addMade b s.h M) = withPend s pend := by
            unfold MadeIs at hM
            cases pend with
            | some p =>
              obtain ⟨k, blk⟩ := p
              obtain ⟨rfl, hn⟩ := hM
              simp only [addMade, htb, hn, hsetC_eq, St.withH_eq, withPend]
            | none =>
              cases dn with
              | some k => obtain ⟨blk, rfl, ht⟩ := hM; rw [addMade_there ht, St.withH_eq]; rfl
              | none => simp only at hM; subst hM; rw [St.withH_eq]; rfl
          have e3 : dHeavy P G K o b i done fr (s.withH (addMade b s.h M)) ⟨M, rs⟩ (fun fr s z => natC (Nat.lor done (2 ^ i)) fun d => drawOps P G K l.toArray l.length rest d fr s z) = dHeavy2 P G o b done fr (addMade b s.h M) ⟨M, rs⟩ (fun fr s z => natC (Nat.lor done (2 ^ i)) fun d => drawOps P G K l.toArray l.length rest d fr s z) (heavy P K fr (keyOf fr i) (s.withH (addMade b s.h M)) o.op) := by
            have e4 : (s.withH (addMade b s.h M)).h = addMade b s.h M := by rw [St.withH_eq]
            unfold dHeavy
            split
            · rename_i h0; rw [h0] at hnr; simp [notRange] at hnr
            · rw [e4]
          dsimp only
          rw [e3, e0, e]
          have hMd : MadeIs i0 s'.h none (doneOf dn pend) M := by
            unfold MadeIs at hM ⊢
            unfold isThere doneOf at hth
            unfold doneOf
            cases pend with
            | some p => obtain ⟨k, blk⟩ := p; obtain ⟨rfl, hn⟩ := hM; exact ⟨blk, rfl, hth⟩
            | none =>
              cases dn with
              | some k => obtain ⟨blk, rfl, ht⟩ := hM; exact ⟨blk, rfl, hth⟩
              | none => exact hM
          have hmore : ∀ b', addMade b' s'.h M = s'.h := by
            intro b'
            unfold MadeIs doneOf at hMd
            cases pend with
            | some p => obtain ⟨k, blk⟩ := p; obtain ⟨blk', rfl, ht⟩ := hMd; exact addMade_there ht
            | none =>
              cases dn with
              | some k => obtain ⟨blk', rfl, ht⟩ := hMd; exact addMade_there ht
              | none => simp only at hMd; subst hMd; rfl
          have e4 : readsOk P G fr s'.h M (readsLeft b rs) = true := by
            have : ∀ (rs : List (Nat × Op × AV)), (∀ x ∈ rs, readOp P G fr s'.h x.2.1 = some x.2.2 ∧ avEq x.2.2 x.2.2 = true) → readsOk P G fr s'.h M rs = true := by
              intro rs
              induction rs with
              | nil => intro _; rfl
              | cons x rs ih =>
                obtain ⟨b', op, v⟩ := x
                intro hx
                obtain ⟨h1, h2⟩ := hx (b', op, v) List.mem_cons_self
                simp only at h1 h2
                unfold readsOk
                rw [hmore, h1]
                simp only [h2]
                exact ih fun x hm => hx x (List.mem_cons_of_mem _ hm)
            refine this _ fun x hx => ?_
            obtain ⟨r, hr⟩ := readsLeft_sub hx
            obtain ⟨h1, h2, _, h4⟩ := hso _ hr
            exact ⟨readOp_more hs h2 h1, h4⟩
          have e5 : asideOk (addMade b s.h M) s'.h M = true := by
            have two : ∀ {h1 : Heap} {k : Nat} {blk : AB}, there' h1 k = true → there' s'.h k = true → asideOk h1 s'.h [(i0, k, blk)] = true := by
              intro h1 k blk t1 t2
              unfold there' at t1 t2
              unfold asideOk
              cases q1 : hget h1 k with
              | none => rw [q1] at t1; cases t1
              | some x =>
                cases q2 : hget s'.h k with
                | none => rw [q2] at t2; cases t2
                | some y => rfl
            unfold MadeIs at hM
            unfold isThere doneOf at hth
            cases pend with
            | some p =>
              obtain ⟨k, blk⟩ := p
              obtain ⟨rfl, hn⟩ := hM
              refine two ?_ hth
              simp only [addMade, htb, hn, hsetC_eq]
              unfold there'
              rw [hget_hset, if_pos rfl]; rfl
            | none =>
              cases dn with
              | some k => obtain ⟨blk, rfl, ht⟩ := hM; rw [addMade_there ht]; exact two ht hth
              | none => simp only at hM; subst hM; rfl
          simp only [dHeavy2, drawOuts, e4, e5, hp, putK, natC_eq]
          have := dk_sound (done := Nat.lor done (2 ^ i)) (order := rest) rfl hl' hc' hs hMd (SeenK.put hso hp) hw
          cases hx : drawOps P G K l.toArray l.length rest (Nat.lor done (2 ^ i)) fr' s' ⟨M, rs⟩ with
          | none => rw [hx] at this; exact this
          | some x => rw [hx] at this; exact this
        · cases hc
/-- A REGION THAT DRAWS ITS ORDER, with a new block of its own. -/
theorem r_drawK {id i0 : Nat} {l : List Oper} {js : List Nat} {F lc n : Nat} {t : T AV} {df : List (AV × List AV)} {rc : Rc} {s : St} (hj : (theOrder l).map (·.1) = js) (hok : (drawOk l (theOrder l) && drawD i0 (theOrder l)) = true) (hk : lc + l.length ≤ 1267650600228229401496703205375)
    (h : DK P G K l s.h Q js none none ⟨F, lc, n, t, df, rc⟩ s) : WR (code P G K m (.region id l.toArray true) ⟨F, lc, n, t, df, rc⟩ s) Q := by
  have hkk : keysOk ⟨F, lc, n, t, df, rc⟩ l.length = true := by rw [keysOk_mk]; exact decide_eq_true hk
  rw [Bool.and_eq_true] at hok
  rw [code]
  unfold region
  simp only [List.toList_toArray, hkk]
  unfold drawn
  simp only [List.toList_toArray, hok.1]
  exact dk_sound (c0 := 0) (i0 := i0) hj theOrder_at hok.2 (SameH.refl _) (show MadeIs i0 s.h none none [] from rfl) (fun x hx => by simp at hx) h
/-! ### rules -/
section
variable {l : List Oper} {h0 : Heap} {j : Nat} {js : List Nat} {fr fr' : Fr} {s s' : St} {dst : Option Tmp} {op : Op} {ty : TypeId} {pos : String} {after : Array Edge} {pend : Option (Nat × AB)} {dn : Option Nat} {v : AV}
theorem k_end {F lc lc' n : Nat} {t : T AV} {df : List (AV × List AV)} {rc : Rc} (hl : lc + l.length = lc') (h : Q .normal ⟨F, lc', n, t, df, rc⟩ s) : DK P G K l h0 Q [] none dn ⟨F, lc, n, t, df, rc⟩ s := by
  subst hl; simp only [DK, bump_mk]; exact ⟨trivial, h⟩
theorem k_pure (ho : l[j]? = some ⟨dst, op, ty, pos, after, none⟩) (hc : clsOf op = .pure) (h : stV fr dst s (pureOp P fr op) = some (fr', s')) (hk : DK P G K l h0 Q js pend dn fr' s') : DK P G K l h0 Q (j :: js) pend dn fr s := by
  obtain ⟨u, e, hp, rfl⟩ := stV_some h
  refine ⟨_, ho, .inr ⟨rfl, ?_⟩⟩
  simp only [hc]
  exact ⟨fr', u, e, hp, hk⟩
theorem k_read (ho : l[j]? = some ⟨dst, op, ty, pos, after, none⟩) (hc : clsOf op = .read) (h : readOp P G fr h0 op = some v) (hv : avEq v v = true) (hp : fr.put dst v = some fr') (hk : DK P G K l h0 Q js pend dn fr' s) : DK P G K l h0 Q (j :: js) pend dn fr s := by
  refine ⟨_, ho, .inr ⟨rfl, ?_⟩⟩
  simp only [hc]
  exact ⟨fr', v, h, hv, hp, hk⟩
theorem k_alloc {blk : AB} (ho : l[j]? = some ⟨dst, op, ty, pos, after, none⟩) (hc : clsOf op = .alloc) (h : allocOp P fr (keyOf fr j) op = some (v, blk)) (hn : hget s.h (keyOf fr j) = none) (hp : fr.put dst v = some fr') (hk : DK P G K l h0 Q js (some (keyOf fr j, blk)) none fr' s) : DK P G K l h0 Q (j :: js) none none fr s := by
  refine ⟨_, ho, .inr ⟨rfl, ?_⟩⟩
  simp only [hc]
  exact ⟨trivial, trivial, fr', v, blk, h, hn, hp, hk⟩
theorem k_heavy1 {k : Nat} {blk : AB} (ho : l[j]? = some ⟨dst, op, ty, pos, after, none⟩) (hc : clsOf op = .heavy) (h : heavy P K fr (keyOf fr j) ⟨hset s.h k blk, s.fc⟩ op = some [.val v s']) (hp : fr.put dst v = some fr') (hs : SameH h0 s'.h) (ht : there' s'.h k = true) (hk : DK P G K l h0 Q js none (some k) fr' s') : DK P G K l h0 Q (j :: js) (some (k, blk)) dn fr s := by
  refine ⟨_, ho, .inr ⟨rfl, ?_⟩⟩
  simp only [hc]
  exact ⟨fr', v, s', h, hp, hs, ht, hk⟩
theorem k_heavy2 {k : Nat} (ho : l[j]? = some ⟨dst, op, ty, pos, after, none⟩) (hc : clsOf op = .heavy) (h : heavy P K fr (keyOf fr j) s op = some [.val v s']) (hp : fr.put dst v = some fr') (hs : SameH h0 s'.h) (ht : there' s'.h k = true) (hk : DK P G K l h0 Q js none (some k) fr' s') : DK P G K l h0 Q (j :: js) none (some k) fr s := by
  refine ⟨_, ho, .inr ⟨rfl, ?_⟩⟩
  simp only [hc]
  exact ⟨fr', v, s', h, hp, hs, ht, hk⟩
end
end Go.Ai
