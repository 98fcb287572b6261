/- A part of an evaluator over an abstract heap and of the proof that it is sound for the model. CONDITIONS: those that each theorem names. -/
import Derived.Laws.Externs
import Derived.Test.YtcjflpibkaemhacGreatDoorEngineC
/-! What a call left behind is forgotten. -/
namespace Go.Ai
open Go
variable {P : Program} {G : Glob} {base : Nat}

theorem cutT_get {α : Type} : ∀ {t : T α} {n k : Nat} {x : α}, (cutT n t).get k = some x → t.get k = some x
  | .e, n, k, x, h => by simp only [cutT] at h; exact h
  | .n l v r, n, k, x, h => by
    simp only [cutT] at h
    rw [T.get_n] at h ⊢
    split at h
    · rename_i h0
      rw [if_pos h0]
      cases n with
      | zero => cases h
      | succ n => exact h
    · rename_i h0
      rw [if_neg h0]
      split at h
      · rename_i h1; rw [if_pos h1]; exact cutT_get h
      · rename_i h1; rw [if_neg h1]; exact cutT_get h
theorem hget_cut {h : Heap} {n i : Nat} {ab : AB} (hg : hget (cutT n h) i = some ab) : hget h i = some ab := by
  unfold hget at hg ⊢
  cases hq : (cutT n h).get (Nat.div i 1267650600228229401496703205376) with
  | none => rw [hq] at hg; cases hg
  | some t => rw [hq] at hg; rw [cutT_get hq]; exact hg
theorem tidyH_sub {fc : Nat} {v : AV} {h h' : Heap} (ht : tidyH fc v h = some h') : ∀ i ab, hget h' i = some ab → hget h i = some ab := by
  intro i ab hi
  unfold tidyH at ht
  split at ht
  · rename_i id _ _ _ _
    split at ht
    · rename_i cs n es hg
      split at ht
      · split at ht
        · cases ht
          rw [hget_hset] at hi
          split at hi
          · rename_i e; subst e; cases hi; exact hg
          · exact hget_cut hi
        · cases ht
      · cases ht
    · cases ht
  · cases ht; exact hget_cut hi
  · cases ht
theorem tEq_eq {α : Type} {eq : α → α → Bool} (he : ∀ x y, eq x y = true → x = y) : ∀ {a b : T α}, tEq eq a b = true → a = b
  | .e, .e, _ => rfl
  | .n l v r, .n l' v' r', h => by
    simp only [tEq] at h
    split at h
    · split at h
      · rename_i hl; rw [tEq_eq he hl, tEq_eq he h]
      · cases h
    · split at h
      · rename_i hx
        split at h
        · rename_i hl; rw [he _ _ hx, tEq_eq he hl, tEq_eq he h]
        · cases h
      · cases h
    · cases h
  | .e, .n _ _ _, h => by simp [tEq] at h
  | .n _ _ _, .e, h => by simp [tEq] at h
theorem meEq_eq : ∀ {a b : List (AV × AV × Nat)}, meEq a b = true → a = b
  | [], [], _ => rfl
  | (k, v, b) :: l, (k', v', b') :: l', h => by
    simp only [meEq] at h
    split at h
    · rename_i h1 h2 h3; rw [avEq_eq h1, avEq_eq h2, Nat.eq_of_beq_eq_true h3, meEq_eq h]
    · cases h
  | [], _ :: _, h => by simp [meEq] at h
  | _ :: _, [], h => by simp [meEq] at h
theorem natsEq_eq : ∀ {a b : List Nat}, natsEq a b = true → a = b
  | [], [], _ => rfl
  | a :: l, b :: r, h => by
    simp only [natsEq] at h
    split at h
    · rename_i h1; rw [Nat.eq_of_beq_eq_true h1, natsEq_eq h]
    · cases h
  | [], _ :: _, h => by simp [natsEq] at h
  | _ :: _, [], h => by simp [natsEq] at h
theorem abEq_eq {a b : AB} (h : abEq a b = true) : a = b := by
  unfold abEq at h
  split at h
  · rfl
  · split at h
    · rename_i h1 h2; rw [Nat.eq_of_beq_eq_true h1, Nat.eq_of_beq_eq_true h2, tEq_eq (fun _ _ h => avEq_eq h) h]
    · cases h
  · split at h
    · rename_i h1; rw [Nat.eq_of_beq_eq_true h1, meEq_eq h]
    · cases h
  · split at h
    · rename_i h1 h2 h3; rw [Nat.eq_of_beq_eq_true h1, Nat.eq_of_beq_eq_true h2, Nat.eq_of_beq_eq_true h3, natsEq_eq h]
    · cases h
  · cases h
theorem tidyAll_spec {fc : Nat} : ∀ {outs : List Out} {l : List (AV × Heap)} {m : Nat}, tidyAll fc outs = some (l, m) → ∀ o, o ∈ outs → ∃ v h n h', o = .val v ⟨h, n⟩ ∧ tidyH fc v h = some h' ∧ (v, h') ∈ l ∧ n ≤ m
  | [], _, _, _, o, hm => by cases hm
  | .val v ⟨h, n⟩ :: r, l, m, ht, o, hm => by
    simp only [tidyAll] at ht
    split at ht
    · rename_i h' l1 m1 h1 h2
      cases ht
      rcases List.mem_cons.1 hm with e | e
      · subst e
        exact ⟨v, h, n, h', rfl, h1, List.mem_cons_self, Nat.le_max_left _ _⟩
      · obtain ⟨v2, h3, n2, h4, q1, q2, q3, q4⟩ := tidyAll_spec h2 o e
        exact ⟨v2, h3, n2, h4, q1, q2, List.mem_cons_of_mem _ q3, Nat.le_trans q4 (Nat.le_max_right _ _)⟩
    · cases ht
  | .pan _ _ :: _, _, _, ht, _, _ => by simp [tidyAll] at ht
theorem allSame_spec {v : AV} {h : Heap} : ∀ {r : List (AV × Heap)}, allSame v h r = true → ∀ x ∈ r, x = (v, h)
  | [], _, x, hm => by cases hm
  | (v', h') :: r, ha, x, hm => by
    simp only [allSame] at ha
    split at ha
    · rename_i h1 h2
      rcases List.mem_cons.1 hm with e | e
      · subst e; rw [avEq_eq h1, tEq_eq (fun _ _ h => tEq_eq (fun _ _ h => abEq_eq h) h) h2]
      · exact allSame_spec ha x e
    · cases ha

/-- less of the memory, a higher number -/
theorem Adv.less {ok : Nat → Prop} {ρ ρ' : Map} {s : St} {w w' : World} {h h' : Heap} {n m : Nat} (a : Adv base ok ρ s w ρ' ⟨h, n⟩ w') (hs : ∀ i ab, hget h' i = some ab → hget h i = some ab) (hm : n ≤ m) : Adv base ok ρ s w ρ' ⟨h', m⟩ w' := by
  refine ⟨⟨a.st.mono, a.st.keeps, a.st.rh.sub fun i ab hi _ => hs i ab hi, fun b hb => ?_⟩, Nat.le_trans a.fc hm, a.keep, fun i hi => a.hi i (Nat.le_trans (Nat.mul_le_mul_right _ hm) hi)⟩
  obtain ⟨i, e, ⟨ab, hi, hd⟩, he, hb'⟩ := hb
  exact a.st.grow b ⟨i, e, ⟨ab, hs i ab hi, hd⟩, he, hb'⟩
theorem tidyO_post {gc : Bool} {fc : Nat} {outs : List Out} {ρ : Map} {s : St} {w : World} {e : Ending} {w' : World} (h : CallPost base ρ s w outs e w') : CallPost base ρ s w (tidyO gc fc outs) e w' := by
  unfold tidyO
  split
  · rename_i v h1 r n ht
    split
    · rename_i ha
      obtain ⟨ρ', ⟨v', s', u, hin, he, ru, hadv⟩ | ⟨v', s', u, hin, he, ru, hadv⟩⟩ := h
      · obtain ⟨v2, h2, n2, h3, q1, q2, q3, q4⟩ := tidyAll_spec ht _ hin
        have hx : (v2, h3) = (v, h1) := by
          rcases List.mem_cons.1 q3 with e | e
          · exact e
          · exact allSame_spec ha _ e
        obtain ⟨rfl, rfl⟩ := Prod.mk.inj hx
        obtain ⟨rfl, rfl⟩ := Out.val.inj q1
        exact ⟨ρ', .inl ⟨_, ⟨_, n⟩, u, List.mem_singleton.2 rfl, he, ru, hadv.less (tidyH_sub q2) q4⟩⟩
      · obtain ⟨_, _, _, _, q1, _⟩ := tidyAll_spec ht _ hin
        cases q1
    · exact h
  · exact h
end Go.Ai

namespace Go.Ai
open Go
variable {P : Program} {G : Glob} {base : Nat}

theorem deferred_sound {call : CallF} (HC : CallOK P G base call) (hm : P.follows .mixedOrders = true) (hn : NoNum P) {m : Nat} {d : AV × List AV} {u : Lv} {s : St} {l : List (Lv × St)} (h : deferred P G call m d u s = some l) {ρ : Map} {dd : Deferred} {mode : FrameMode} {w : World}
    (rd : RDefF ρ d dd) (rl : RL ρ u mode) (rm : RM G base ρ s w) :
    ∃ fv cap f args, dd.target = .fn fv cap ∧ (invoke dd.target dd.args).run P w = .ok (.enter f args) w ∧
      CallsD P f args mode w fun e mode' w' => ∃ v, e = .returned v ∧ ∃ u' s' ρ', (u', s') ∈ l ∧ RL ρ' u' (settle mode') ∧ RM G base ρ' s' w' ∧ Adv base (fun _ => False) ρ s w ρ' s' w' := by
  obtain ⟨g, first, captured, hd, f', c', a', r1, r2, r3, hdd⟩ := rd
  unfold deferred at h
  rw [hd] at h
  simp only at h
  split at h
  · rename_i fn hfn
    have hfn' : P.funcs[g]? = some fn := by simpa using hfn
    split at h
    · cases h
    · rename_i l0 hbody
      have rv : RVs ρ (first ++ d.2 ++ captured) (f' ++ a' ++ c') := RVs.append (RVs.append r1 r3) r2
      obtain ⟨c, hc, hwp⟩ := body_sound HC hm hn hbody rv rm
      subst hdd
      refine ⟨.func g, c'.toArray, g, (f' ++ a' ++ c').toArray, rfl, ?_, ?_⟩
      · simp only [invoke]
        have e1 : (f' ++ a').toArray ++ c'.toArray = (f' ++ a' ++ c').toArray := by apply Array.toList_inj.1; simp
        rw [e1]
        exact callFunc_enter hn hfn' hc _ w
      · refine callsD_of_wpS hfn' hc fun c₀ cs hmode => ?_
        have hw := hwp (c₀ :: cs) (c₀ :: cs) (by
          clear hwp
          cases u with
          | back => exact ⟨rfl, c₀, cs, rfl, by rw [hmode]; exact rl⟩
          | pan v =>
            obtain ⟨x, rx, hx⟩ := rl
            refine ⟨c₀, cs, x, rfl, rx, ?_⟩
            rw [← hx, ← hmode])
        intro b k hb1 hb2
        obtain ⟨e, a2, cs', w', hpost, harr⟩ := hw b k (by cases u <;> exact ⟨hb1, hb2⟩)
        refine ⟨e, a2, cs', w', ?_, harr⟩
        obtain ⟨x, fr', s', ρ', h1, h2, h3, h4, h5, h6, h7, h8⟩ := hpost
        obtain ⟨g1, g2, ⟨v, g3⟩, g4⟩ := deferred_ends h x fr' s' h1
        rw [g2] at h5
        simp only [RD] at h5
        obtain ⟨rv, hrun, _⟩ := result_sound h3 h4 g3
        have hmodes : ∃ mode', cs' = { c₀ with mode := mode' } :: cs ∧ ∃ u', (u', s') ∈ l ∧ RL ρ' u' (settle mode') := by
          rcases g4 with ⟨e1, e2, e3⟩ | ⟨v, v', e1, e2, e3⟩ | ⟨v, v', e1, e2, e3⟩
          · rw [e2] at h7
            obtain ⟨h9, c1, rest, h10, h11⟩ := h7
            cases h10
            refine ⟨.returning, ?_, .back, e3, rfl⟩
            rw [h9, ← h11]
          · rw [e2] at h7
            obtain ⟨c1, rest, y, h10, ry, h11⟩ := h7
            cases h10
            exact ⟨_, h11, .back, e3, rfl⟩
          · rw [e2] at h7
            obtain ⟨c1, rest, y, h10, ry, h11⟩ := h7
            cases h10
            exact ⟨_, h11, .pan v', e3, y, ry, rfl⟩
        obtain ⟨mode', hcs', u', hin, hrl⟩ := hmodes
        rcases g1 with e1 | e1
        · subst e1
          have he : e = .normal := h2
          subst he
          exact ⟨h5, mode', hcs', rv, hrun, rv, rfl, u', s', ρ', hin, hrl, h4, h6⟩
        · subst e1
          have he : e = .ret := h2
          subst he
          exact ⟨h5, mode', hcs', rv, hrun, rv, rfl, u', s', ρ', hin, hrl, h4, h6⟩
  · cases h

theorem leave_go {f : Lv → St → Outs} : ∀ {l : List (Lv × St)} {res : List Out} {u : Lv} {s : St}, leave.go f l = some res → (u, s) ∈ l → ∃ o', f u s = some o' ∧ ∀ x ∈ o', x ∈ res
  | [], _, _, _, _, h => by cases h
  | (u0, s0) :: rest, res, u, s, h, hm => by
    simp only [leave.go] at h
    split at h
    · cases h
    · rename_i a ha
      split at h
      · cases h
        rcases List.mem_cons.1 hm with q | q
        · cases q; exact ⟨_, ha, fun _ h => h⟩
        · cases q
      · split at h
        · cases h
        · rename_i b hb
          cases h
          rcases List.mem_cons.1 hm with q | q
          · cases q; exact ⟨_, ha, fun x h => List.mem_append_left _ h⟩
          · obtain ⟨o', h1, h2⟩ := leave_go hb q
            exact ⟨o', h1, fun x hx => List.mem_append_right _ (h2 x hx)⟩

theorem leaves_sound {call : CallF} (HC : CallOK P G base call) (hm : P.follows .mixedOrders = true) (hn : NoNum P) {m : Nat} {fn : Func} {fr : Fr} {a : Act} {ρ0 : Map} {s0 : St} {w0 : World} {OUTS : List Out} : ∀ (ds : List (AV × List AV)) (u : Lv) (s : St) (outs : List Out), leave P G call m fn fr ds u s = some outs → (∀ x ∈ outs, x ∈ OUTS) →
    ∀ (ρ : Map) (dd : List Deferred) (mode : FrameMode) (w : World), RD ρ ds dd → RL ρ u mode → RF ρ fr a → RM G base ρ s w → Adv base (fun _ => False) ρ0 s0 w0 ρ s w → LvM P fn a.tmps (CallPost base ρ0 s0 w0 OUTS) dd mode w
  | [], .back, s, outs, h, hsub, ρ, dd, mode, w, rd, rl, rf, rm, hadv => by
    simp only [RD] at rd
    subst rd
    have rl : mode = .returning := rl
    subst rl
    simp only [leave] at h
    split at h
    · rename_i v hv
      cases h
      obtain ⟨u, hu, ru⟩ := result_sound rf rm hv
      exact ⟨u, hu, ρ, .inl ⟨v, s, u, hsub _ (List.mem_singleton.2 rfl), rfl, ru, hadv⟩⟩
    · cases h
  | [], .pan v, s, outs, h, hsub, ρ, dd, mode, w, rd, rl, rf, rm, hadv => by
    simp only [RD] at rd
    subst rd
    obtain ⟨u, ru, hx⟩ := rl
    subst hx
    simp only [leave] at h
    cases h
    exact ⟨ρ, .inr ⟨v, s, u, hsub _ (List.mem_singleton.2 rfl), rfl, ru, hadv⟩⟩
  | d :: ds, u, s, outs, h, hsub, ρ, dd, mode, w, rd, rl, rf, rm, hadv => by
    obtain ⟨d', ds', r1, r2, hdd⟩ := rd
    subst hdd
    simp only [leave] at h
    split at h
    · cases h
    · rename_i l hl
      have hrun : mode ≠ .run := by
        cases u with
        | back => have : mode = .returning := rl; subst this; simp
        | pan v => obtain ⟨_, _, hx⟩ := rl; subst hx; simp
      rcases r1 with r1 | ⟨k, e, hd, he, hdd⟩
      · obtain ⟨fv, cap, f, args, h1, h2, h3⟩ := deferred_sound HC hm hn hl r1 rl rm
        refine ⟨hrun, .inr ⟨fv, cap, f, args, h1, h2, h3.mono ?_⟩⟩
        rintro e mode' w' ⟨v, he, u', s', ρ', hin, hrl, hrm, hadv'⟩
        subst he
        obtain ⟨o', ho, hs⟩ := leave_go h hin
        exact ⟨v, rfl, leaves_sound HC hm hn ds u' s' o' ho (fun x hx => hsub x (hs x hx)) ρ' ds' (settle mode') w' (r2.mono hadv'.st.mono) hrl (rf.mono hadv'.st.mono) hrm (hadv.trans hadv')⟩
      · subst hd hdd
        simp only [deferred] at hl
        split at hl
        · rename_i hg
          cases hl
          obtain ⟨e0, ob, q1, q2, q3, q4⟩ := rm.rh.blk _ _ hg (by simp)
          rw [he] at q1
          cases q1
          have q4 : ob = .deferred (some []) := q4
          subst q4
          have hadv' := upd_adv (ab' := .defs false) (ob' := .deferred none) rm hg (by simp) (by simp) he rfl
          obtain ⟨o', ho, hs⟩ := leave_go h (List.mem_singleton.2 rfl)
          exact ⟨hrun, .inl ⟨e.b, _, rfl, run_takeDeferred q3, leaves_sound HC hm hn ds u _ o' ho (fun x hx => hsub x (hs x hx)) ρ ds' mode _ r2 rl rf (rm.adv hadv') (hadv.trans hadv')⟩⟩
        · cases hl

theorem ends_spec {call : CallF} {m : Nat} {fn : Func} : ∀ {l : List (Ex × Fr × St)} {res : List Out}, ends P G call m fn l = some res → ∀ e fr s, (e, fr, s) ∈ l →
    ∃ u o', (((e = .normal ∨ e = .ret) ∧ u = .back) ∨ ∃ v, e = .pan v ∧ u = .pan v) ∧ leave P G call m fn fr fr.df u s = some o' ∧ ∀ x ∈ o', x ∈ res
  | [], _, _, e, fr, s, hm => by cases hm
  | (e0, fr0, s0) :: rest, res, h, e, fr, s, hm => by
    simp only [ends] at h
    split at h
    · cases h
    · rename_i a ha
      have hd : ∃ u, (((e0 = .normal ∨ e0 = .ret) ∧ u = Lv.back) ∨ ∃ v, e0 = .pan v ∧ u = .pan v) ∧ leave P G call m fn fr0 fr0.df u s0 = some a := by
        cases e0 with
        | normal => exact ⟨.back, .inl ⟨.inl rfl, rfl⟩, ha⟩
        | ret => exact ⟨.back, .inl ⟨.inr rfl, rfl⟩, ha⟩
        | pan v => exact ⟨.pan v, .inr ⟨v, rfl, rfl⟩, ha⟩
        | exit j => simp at ha
      obtain ⟨u, hu, hl⟩ := hd
      split at h
      · cases h
        rcases List.mem_cons.1 hm with q | q
        · cases q; exact ⟨u, _, hu, hl, fun _ h => h⟩
        · cases q
      · split at h
        · cases h
        · rename_i b hb
          cases h
          rcases List.mem_cons.1 hm with q | q
          · cases q; exact ⟨u, _, hu, hl, fun x h => List.mem_append_left _ h⟩
          · obtain ⟨u', o', h1, h2, h3⟩ := ends_spec hb e fr s q
            exact ⟨u', o', h1, h2, fun x hx => List.mem_append_right _ (h3 x hx)⟩

/-! ### calls -/
/-- What is known without a walk. -/
def XOK (P : Program) (G : Glob) (X : Ext) : Prop :=
  ∀ f args v, X f args = some v → ∀ (ρ : Map) (base : Nat) (w : World) (vs : List Value), RVs ρ args vs → RG G base w → base ≤ w.heap.size → Meets P ((callFunc f vs.toArray).run P w) fun e w' => ∃ u, e = .returned u ∧ RV ρ v u ∧ Keeps (fun _ => False) w w'

theorem RM.keeps {ρ : Map} {s : St} {w w' : World} (r : RM G base ρ s w) (h : Keeps (fun _ => False) w w') : Adv base (fun _ => False) ρ s w ρ s w' := by
  have hblk : ∀ b, b < w.heap.size → w'.heap[b]? = w.heap[b]? := fun b hb => h.block b hb (fun h => h)
  have hrh : RH ρ base (hget s.h) w' := ⟨fun i ab hg hd => by
    obtain ⟨e, ob, h1, h2, h3, h4⟩ := r.rh.blk i ab hg hd
    exact ⟨e, ob, h1, h2, by rw [hblk e.b (r.rh.size hg hd h1)]; exact h3, h4⟩, r.rh.inj⟩
  exact ⟨⟨Mono.refl ρ, ⟨h.os, h.tape, h.output, h.size, fun b hb _ => hblk b hb⟩, hrh, fun b hb => .inl hb⟩, Nat.le_refl _, fun _ _ _ => rfl, r.hi⟩

theorem Meets.mono {r : Result Next} {R R' : Ending → World → Prop} (h : Meets P r R) (hr : ∀ e w, R e w → R' e w) : Meets P r R' := by
  unfold Meets at *
  split at h
  · exact hr _ _ h
  · exact h.mono hr
  · exact h.elim

/-- A FUNCTION WITH A BODY. -/
theorem fn_sound {call : CallF} (HC : CallOK P G base call) (hm : P.follows .mixedOrders = true) (hn : NoNum P) {m : Nat} {f : FuncId} {fn : Func} {args : List AV} {s : St} {l : List (Ex × Fr × St)} {outs : List Out}
    (hf : P.funcs[f]? = some fn) (hb : body P G call m fn args s .no = some l) (he : ends P G call m fn l = some outs) {ρ : Map} {w : World} {vs : List Value} (rv : RVs ρ args vs) (rm : RM G base ρ s w) : Meets P ((callFunc f vs.toArray).run P w) (CallPost base ρ s w outs) := by
  obtain ⟨c, hc, hwp⟩ := body_sound HC hm hn hb rv rm
  rw [callFunc_enter hn hf hc]
  refine calls_of_marks hf hc fun b k cs => ?_
  obtain ⟨e, a', cs', w', hpost, harr⟩ := hwp cs cs rfl b k trivial
  obtain ⟨x, fr', s', ρ', h1, h2, h3, h4, h5, h6, h7, h8⟩ := hpost
  have hrc := h8 rfl
  rw [hrc] at h7
  have hcs : cs' = cs := h7
  subst hcs
  refine ⟨e, a', w', ?_, harr⟩
  obtain ⟨u, o', hu, hl, hs⟩ := ends_spec he x fr' s' h1
  rcases hu with ⟨hx, hu⟩ | ⟨v, hx, hu⟩
  · subst hu
    refine .inl ⟨?_, leaves_sound HC hm hn fr'.df .back s' o' hl hs ρ' a'.defers .returning w' h5 rfl h3 h4 h6⟩
    rcases hx with hx | hx
    · subst hx; exact .inl h2
    · subst hx; exact .inr h2
  · subst hx hu
    obtain ⟨u, ru, he⟩ := h2
    exact .inr ⟨_, he, leaves_sound HC hm hn fr'.df (.pan v) s' o' hl hs ρ' a'.defers _ w' h5 ⟨u, ru, rfl⟩ h3 h4 h6⟩

/-- A CALL. -/
theorem call_sound {X : Ext} (HX : XOK P G X) (hm : P.follows .mixedOrders = true) (hn : NoNum P) (m : Nat) : ∀ n, CallOK P G base (call P G X m n)
  | 0 => ⟨fun f args s outs h => by simp [call] at h, fun k args s outs h => by simp [call] at h⟩
  | n + 1 => by
    have HC := call_sound HX hm hn m n
    refine ⟨fun f args s outs h ρ w vs rv rm => ?_, fun k args s outs h ρ w vs e rv rm he => round_sound HC hm h rv rm he⟩
    simp only [call] at h
    split at h
    · cases h
    · rename_i fn hfn
      have hfn' : P.funcs[f]? = some fn := by simpa using hfn
      split at h
      · rename_i v hv
        cases h
        refine (HX f args v hv ρ base w vs rv rm.rg rm.bs).mono ?_
        rintro e w' ⟨u, he, ru, hk⟩
        exact ⟨ρ, .inl ⟨v, s, u, List.mem_singleton.2 rfl, he, ru, rm.keeps hk⟩⟩
      · split at h
        · cases h
        · rename_i l hbody
          cases he : ends P G (call P G X m n) m fn l with
          | none => rw [he] at h; cases h
          | some outs0 =>
            rw [he] at h
            cases h
            exact (fn_sound HC hm hn hfn' hbody he rv rm).mono fun e w' hp => tidyO_post hp
end Go.Ai

namespace Go.Ai
open Go
variable {P : Program} {G : Glob}

/-! ### what is remembered -/
noncomputable def scalA : AV → Bool
  | .bool _ | .int _ _ | .str _ | .nilp | .nils | .nilm | .nilf | .nili => true
  | _ => false
noncomputable def scalL : List AV → Bool
  | [] => true
  | v :: vs => match scalA v with
    | true => scalL vs
    | false => false
noncomputable def plainA : AV → Bool
  | .agg vs => scalL vs
  | .tup vs => scalL vs
  | v => scalA v
noncomputable def plainL : List AV → Bool
  | [] => true
  | v :: vs => match plainA v with
    | true => plainL vs
    | false => false
noncomputable def memoOne : Outs → Option AV
  | some [.val v _] => match plainA v with
    | true => some v
    | false => none
  | _ => none
noncomputable def memoX (P : Program) (G : Glob) (X : Ext) (m n : Nat) (sel : Nat → Bool) : Ext := ⟨fun f args =>
  match sel f, plainL args with
  | true, true => memoOne (call P G X m n f args ⟨.e, 0⟩)
  | _, _ => X f args, X.gc⟩

theorem scalA_rv {v : AV} (h : scalA v = true) {ρ ρ' : Map} {u : Value} (r : RV ρ v u) : RV ρ' v u := by
  cases v <;> first | exact r | simp [scalA] at h
theorem scalL_rv : ∀ {vs : List AV}, scalL vs = true → ∀ {ρ ρ' : Map} {us : List Value}, RVs ρ vs us → RVs ρ' vs us
  | [], _, _, _, _, r => r
  | v :: vs, h, ρ, ρ', us, ⟨x, xs, rx, rs, e⟩ => by
    simp only [scalL] at h
    split at h
    · rename_i hv; exact ⟨x, xs, scalA_rv hv rx, scalL_rv h rs, e⟩
    · cases h
theorem plainA_rv {v : AV} (h : plainA v = true) {ρ ρ' : Map} {u : Value} (r : RV ρ v u) : RV ρ' v u := by
  cases v with
  | agg vs => obtain ⟨us, rs, e⟩ := r; exact ⟨us, scalL_rv h rs, e⟩
  | tup vs => obtain ⟨us, rs, e⟩ := r; exact ⟨us, scalL_rv h rs, e⟩
  | bool _ | int _ _ | str _ | nilp | nils | nilm | nilf | nili => exact r
  | _ => simp [plainA, scalA] at h
theorem plainL_rv : ∀ {vs : List AV}, plainL vs = true → ∀ {ρ ρ' : Map} {us : List Value}, RVs ρ vs us → RVs ρ' vs us
  | [], _, _, _, _, r => r
  | v :: vs, h, ρ, ρ', us, ⟨x, xs, rx, rs, e⟩ => by
    simp only [plainL] at h
    split at h
    · rename_i hv; exact ⟨x, xs, plainA_rv hv rx, plainL_rv h rs, e⟩
    · cases h

theorem rm_empty {base : Nat} {w : World} (rg : RG G base w) (hb : base ≤ w.heap.size) : RM G w.heap.size (fun _ => none) ⟨.e, 0⟩ w := by
  have he : ∀ i, hget (.e : Heap) i = none := fun i => by
    simp only [hget]
    cases hq : (T.e : T (T AB)).get (i / 1267650600228229401496703205376) <;> first | rfl | skip
    all_goals simp_all [T.get]
  refine ⟨⟨(fun i ab hi _ => absurd hi (by rw [he]; simp)), (fun i j e e' ⟨ab, hi, _⟩ => absurd hi (by rw [he]; simp))⟩, fun g l hg => ?_, Nat.le_refl _, fun _ _ => rfl⟩
  obtain ⟨h1, h2⟩ := rg g l hg
  exact ⟨by omega, h2⟩

/-- A CALL IN AN EMPTY MEMORY. -/
theorem call_empty {X : Ext} (HX : XOK P G X) (hm : P.follows .mixedOrders = true) (hn : NoNum P) {m n f : Nat} {args : List AV} {outs : List Out} (h : call P G X m n f args ⟨.e, 0⟩ = some outs) (hp : plainL args = true) {ρ : Map} {base : Nat} {w : World} {vs : List Value} (rv : RVs ρ args vs) (rg : RG G base w) (hb : base ≤ w.heap.size) :
    Meets P ((callFunc f vs.toArray).run P w) fun e w' => Keeps (fun _ => False) w w' ∧ ∃ ρ', (∃ v s' u, Out.val v s' ∈ outs ∧ e = .returned u ∧ RV ρ' v u) ∨ (∃ v s' u, Out.pan v s' ∈ outs ∧ e = .panicked [{ v := u, recovered := false }] ∧ RV ρ' v u) := by
  have rm := rm_empty rg hb
  refine ((call_sound HX hm hn m n).fn f args _ outs h _ w vs (plainL_rv hp rv) rm).mono ?_
  have keep : ∀ {ρ' : Map} {s' : St} {w' : World}, Adv w.heap.size (fun _ => False) (fun _ => none) ⟨.e, 0⟩ w ρ' s' w' → Keeps (fun _ => False) w w' := fun h =>
    ⟨h.st.keeps.os, h.st.keeps.tape, h.st.keeps.output, h.st.keeps.size, fun b hb _ => h.st.keeps.block b hb (by rintro ⟨i, e, _, he, _⟩; cases he)⟩
  rintro e w' ⟨ρ', ⟨v, s', u, h1, h2, h3, h4⟩ | ⟨v, s', u, h1, h2, h3, h4⟩⟩
  · exact ⟨keep h4, ρ', .inl ⟨v, s', u, h1, h2, h3⟩⟩
  · exact ⟨keep h4, ρ', .inr ⟨v, s', u, h1, h2, h3⟩⟩

theorem memo_ok {X : Ext} (HX : XOK P G X) (hm : P.follows .mixedOrders = true) (hn : NoNum P) (m n : Nat) (sel : Nat → Bool) : XOK P G (memoX P G X m n sel) := by
  intro f args v h ρ base w vs rv rg hb
  unfold memoX at h
  simp only at h
  split at h
  · rename_i hp
    unfold memoOne at h
    split at h
    · rename_i v' s' hc
      split at h
      · rename_i hpl
        cases h
        refine (call_empty HX hm hn hc hp rv rg hb).mono ?_
        rintro e w' ⟨hk, ρ', ⟨v2, s2, u, h1, h2, h3⟩ | ⟨v2, s2, u, h1, h2, h3⟩⟩
        · cases List.mem_singleton.1 h1
          exact ⟨u, h2, plainA_rv hpl h3, hk⟩
        · cases List.mem_singleton.1 h1
      · cases h
    · cases h
  · exact HX f args v h ρ base w vs rv rg hb

/-- do all the ways out answer true? -/
noncomputable def allTrue : List Out → Bool
  | [] => true
  | .val (.bool true) _ :: r => allTrue r
  | _ => false
noncomputable def saysTrue : Outs → Bool
  | some l => allTrue l
  | none => false
theorem allTrue_spec : ∀ {l : List Out}, allTrue l = true → ∀ o ∈ l, ∃ s, o = .val (.bool true) s
  | [], _, o, h => by cases h
  | .val (.bool true) s :: r, h, o, hm => by
    rcases List.mem_cons.1 hm with e | e
    · exact ⟨s, e⟩
    · exact allTrue_spec (by simpa [allTrue] using h) o e
  | .val (.bool false) s :: r, h, o, hm => by simp [allTrue] at h
  | .pan _ _ :: r, h, o, hm => by simp [allTrue] at h
  | .val (.int _ _) _ :: r, h, o, hm | .val (.str _) _ :: r, h, o, hm | .val .nilp _ :: r, h, o, hm | .val (.ptr _ _) _ :: r, h, o, hm | .val (.gptr _ _) _ :: r, h, o, hm | .val .nils _ :: r, h, o, hm
  | .val (.slice ..) _ :: r, h, o, hm | .val .nilm _ :: r, h, o, hm | .val (.map _) _ :: r, h, o, hm | .val (.fn ..) _ :: r, h, o, hm | .val .nilf _ :: r, h, o, hm | .val (.iface ..) _ :: r, h, o, hm | .val .nili _ :: r, h, o, hm
  | .val (.agg _) _ :: r, h, o, hm | .val (.tup _) _ :: r, h, o, hm => by simp [allTrue] at h

/-- A LAW WITHOUT PARAMETERS. -/
theorem says_true {X : Ext} (HX : XOK P G X) (hm : P.follows .mixedOrders = true) (hn : NoNum P) {m n f : Nat} (h : saysTrue (call P G X m n f [] ⟨.e, 0⟩) = true) {fn : Func} {c : Code} (hf : P.funcs[f]? = some fn) (hb : fn.body = some c) {base : Nat} {w : World} (rg : RG G base w) (hbs : base ≤ w.heap.size) :
    Calls P f #[] w fun e w' => e = .returned (.bool true) ∧ Keeps (fun _ => False) w w' := by
  unfold saysTrue at h
  split at h
  · rename_i l hl
    have := call_empty HX hm hn hl rfl (ρ := fun _ => none) (vs := []) rfl rg hbs
    have e0 : ([] : List Value).toArray = #[] := rfl
    rw [e0, callFunc_enter hn hf hb] at this
    refine Calls.mono (this : Calls P f #[] w _) ?_
    rintro e w' ⟨hk, ρ', ⟨v, s', u, h1, h2, h3⟩ | ⟨v, s', u, h1, h2, h3⟩⟩
    · obtain ⟨s, hs⟩ := allTrue_spec h _ h1
      cases hs
      simp only [RV] at h3
      subst h3
      exact ⟨h2, hk⟩
    · obtain ⟨s, hs⟩ := allTrue_spec h _ h1
      cases hs
  · cases h
end Go.Ai

namespace Go.Ai
open Go
variable {P : Program} {G : Glob}

/-! ### the library's functions without a body -/
noncomputable def idxB (c : Nat) : List UInt8 → Nat → Int
  | [], _ => -1
  | b :: bs, i => match Nat.beq b.toNat c with
    | true => i
    | false => idxB c bs (i + 1)
noncomputable def cmpB : List UInt8 → List UInt8 → Int
  | [], [] => 0
  | [], _ :: _ => -1
  | _ :: _, [] => 1
  | a :: x, b :: y => match Nat.blt a.toNat b.toNat, Nat.blt b.toNat a.toNat with
    | true, _ => -1
    | _, true => 1
    | _, _ => cmpB x y

theorem idxB_spec (c : UInt8) : ∀ (l : List UInt8) (i : Nat), idxB c.toNat l i = match (List.range l.length).find? fun k => l[k]! == c with | some k => ((i + k : Nat) : Int) | none => -1
  | [], i => rfl
  | b :: bs, i => by
    simp only [idxB]
    rw [List.length_cons, List.range_succ_eq_map, List.find?_cons]
    cases h : Nat.beq b.toNat c.toNat with
    | true =>
      have e : b = c := UInt8.toNat_inj.1 (Nat.eq_of_beq_eq_true h)
      subst e
      simp
    | false =>
      have e : (b == c) = false := by
        cases hq : b == c with
        | false => rfl
        | true => have := eq_of_beq hq; subst this; simp at h
      have e0 : (((b :: bs)[0]! : UInt8) == c) = false := e
      rw [e0]
      simp only
      rw [idxB_spec c bs (i + 1), List.find?_map]
      have hf : ((fun k => (b :: bs)[k]! == c) ∘ Nat.succ) = fun k => bs[k]! == c := by funext k; simp
      rw [hf]
      cases (List.range bs.length).find? fun k => bs[k]! == c with
      | none => rfl
      | some k => simp only [Option.map_some]; congr 1; omega

theorem cmp_go : ∀ (x y : List UInt8), cmpB x y =
    match (List.range (min x.length y.length)).find? fun i => x[i]! != y[i]! with
    | some i => if x[i]! < y[i]! then -1 else 1
    | none => if x.length < y.length then -1 else if x.length > y.length then 1 else 0
  | [], [] => rfl
  | [], b :: y => by simp [cmpB]
  | a :: x, [] => by simp [cmpB]
  | a :: x, b :: y => by
    have hmin : min (a :: x).length (b :: y).length = min x.length y.length + 1 := by simp only [List.length_cons]; omega
    rw [hmin, List.range_succ_eq_map, List.find?_cons]
    simp only [cmpB]
    have h0 : ((a :: x)[0]! : UInt8) = a := rfl
    have h0' : ((b :: y)[0]! : UInt8) = b := rfl
    have hlt : ∀ u v : UInt8, Nat.blt u.toNat v.toNat = decide (u < v) := fun u v => by
      rw [Bool.eq_iff_iff]
      simp [UInt8.lt_iff_toNat_lt]
    rw [hlt, hlt, h0, h0']
    by_cases hab : a = b
    · subst hab
      have e : (a != a) = false := by simp
      have e1 : decide (a < a) = false := by simp
      rw [e, e1]
      simp only
      rw [cmp_go x y, List.find?_map]
      have hf : ((fun i => ((a :: x)[i]! != (a :: y)[i]!)) ∘ Nat.succ) = fun i => x[i]! != y[i]! := by funext k; simp
      rw [hf]
      cases (List.range (min x.length y.length)).find? fun i => x[i]! != y[i]! with
      | none => simp
      | some k => simp
    · have e : (a != b) = true := by simpa using hab
      rw [e]
      show _ = (if a < b then (-1 : Int) else 1)
      by_cases hl : a < b
      · have e1 : decide (a < b) = true := by simpa using hl
        rw [e1, if_pos hl]
      · have e1 : decide (a < b) = false := by simpa using hl
        have e2 : decide (b < a) = true := by
          have : b < a := by
            rw [UInt8.lt_iff_toNat_lt] at hl ⊢
            have : a.toNat ≠ b.toNat := fun h => hab (UInt8.toNat_inj.1 h)
            omega
          simpa using this
        rw [e1, e2, if_neg hl]

theorem size_mk (l : List UInt8) : (ByteArray.mk l.toArray).size = l.length := by simp [ByteArray.size]
theorem get_mk (l : List UInt8) (i : Nat) : (ByteArray.mk l.toArray)[i]! = l[i]! := by
  by_cases h : i < l.length
  · have h' : i < (ByteArray.mk l.toArray).size := by rw [size_mk]; exact h
    rw [getElem!_pos (ByteArray.mk l.toArray) i h', getElem!_pos l i h]
    rfl
  · have h' : ¬ i < (ByteArray.mk l.toArray).size := by rw [size_mk]; exact h
    rw [getElem!_neg (ByteArray.mk l.toArray) i h', getElem!_neg l i h]

theorem idx_ok {f : FuncId} {fn : Func} (hf : P.funcs[f]? = some fn) (hname : (fn.name == "runtime.NumGoroutine") = false) (hb : fn.body.isNone = true) (hn : Extern.findNext fn = none) (he : Extern.find fn = some Extern.BytealgIndexByte.indexByte)
    {l : List UInt8} {c : Nat} (hc : c < 256) (w : World) : (callFunc f #[.string ⟨l.toArray⟩, .int .u8 (c : Int)]).run P w = .ok (.value (.int .i64 (idxB c l 0))) w := by
  rw [run_callFunc_extern hf hname hb hn he, run_indexByte_string]
  have hcc : ((c : Int).toNat.toUInt8).toNat = c := by simp; omega
  have : firstIdx ⟨l.toArray⟩ (c : Int).toNat.toUInt8 = idxB c l 0 := by
    have h1 := idxB_spec (c : Int).toNat.toUInt8 l 0
    rw [hcc] at h1
    rw [h1]
    unfold firstIdx
    rw [size_mk]
    simp only [get_mk, Nat.zero_add]
    rfl
  rw [this]
  rfl
theorem cmp_ok {f : FuncId} {fn : Func} (hf : P.funcs[f]? = some fn) (hname : (fn.name == "runtime.NumGoroutine") = false) (hb : fn.body.isNone = true) (hn : Extern.findNext fn = none) (he : Extern.find fn = some Extern.BytealgCompare.compare)
    {x y : List UInt8} (w : World) : (callFunc f #[.string ⟨x.toArray⟩, .string ⟨y.toArray⟩]).run P w = .ok (.value (.int .i64 (cmpB x y))) w := by
  rw [run_callFunc_extern hf hname hb hn he]
  have : Extern.BytealgCompare.cmp ⟨x.toArray⟩ ⟨y.toArray⟩ = cmpB x y := by
    rw [cmp_go]
    unfold Extern.BytealgCompare.cmp
    rw [size_mk, size_mk]
    simp only [get_mk]
    rfl
  rw [← this]
  rfl
end Go.Ai

