/- A part of an evaluator over an abstract heap and of the proof that it is sound for the model. CONDITIONS: those that each theorem names. -/
import Derived.Test.YtneoghpfbgjaiaaGreatDoorAiCode
namespace Go.Ai
open Go
variable {P : Program} {G : Glob} {base : Nat}

/-! ### results -/
def resF (tmps : Array Value) : ResultVar → Sem Value
  | .tmp t => pure (tmps.getD t undef)
  | .cell a t => do loadVar t (← asAddr (tmps.getD a undef))
theorem resultsA_sound {ρ : Map} {fr : Fr} {s : St} {a : Act} {w : World} (rf : RF ρ fr a) (rm : RM G base ρ s w) : ∀ {rs : List ResultVar} {vs : List AV}, resultsA P G fr s.h rs = some vs → ∃ us, (rs.mapM (resF a.tmps)).run P w = .ok us w ∧ RVs ρ vs us
  | [], vs, h => by simp [resultsA] at h; subst h; exact ⟨[], rfl, rfl⟩
  | r :: rs, vs, h => by
    simp only [resultsA] at h
    split at h
    · rename_i v vs' hv hvs
      cases h
      obtain ⟨us, h1, h2⟩ := resultsA_sound rf rm hvs
      have hone : ∃ u, (resF a.tmps r).run P w = .ok u w ∧ RV ρ v u := by
        cases r with
        | tmp t =>
          simp only [resultA] at hv
          exact ⟨_, rfl, rf.ev hv⟩
        | cell t ty =>
          simp only [resultA] at hv
          split at hv
          · rename_i p hp
            obtain ⟨u, _, ru, ad, had, hl⟩ := loadA_rv rm.rh rm.rg hv (rf.ev hp)
            have had' : a.tmps.getD t undef = .pointer (some ad) := had
            refine ⟨u, ?_, ru⟩
            simp only [resF, had', asAddr, Sem.run_bind, Sem.run_pure, Result.andThen_ok, hl]
          · cases hv
      obtain ⟨u, h3, h4⟩ := hone
      refine ⟨u :: us, ?_, u, us, h4, h2, rfl⟩
      simp only [List.mapM_cons, Sem.run_bind, h3, Result.andThen_ok, h1, Sem.run_pure]
    · cases h
theorem result_sound {ρ : Map} {fr : Fr} {s : St} {a : Act} {w : World} (rf : RF ρ fr a) (rm : RM G base ρ s w) {fn : Func} {v : AV} (h : resultOf P G fr s.h fn.results = some v) : ∃ u, (results fn a.tmps).run P w = .ok u w ∧ RV ρ v u := by
  have hres : results fn a.tmps = (do let vs ← fn.results.mapM (resF a.tmps); pure (if h : vs.size = 1 then vs[0] else .tuple vs)) := rfl
  have key : ∀ vs, resultsA P G fr s.h fn.results.toList = some vs → ∃ us : List Value, (fn.results.mapM (resF a.tmps)).run P w = .ok us.toArray w ∧ RVs ρ vs us := fun vs hvs => by
    obtain ⟨us, h1, h2⟩ := resultsA_sound rf rm hvs
    refine ⟨us, ?_, h2⟩
    rw [Array.mapM_eq_mapM_toList]
    simp only [map_eq_pure_bind, Sem.run_bind, h1, Result.andThen_ok, Sem.run_pure]
  unfold resultOf at h
  split at h
  · rename_i v' hvs
    cases h
    obtain ⟨us, h1, u, us', ru, rs, e⟩ := key _ hvs
    simp only [RVs] at rs
    subst rs e
    refine ⟨u, ?_, ru⟩
    rw [hres]
    simp only [Sem.run_bind, h1, Result.andThen_ok, Sem.run_pure]
    rfl
  · rename_i vs hne hvs
    cases h
    obtain ⟨us, h1, rs⟩ := key _ hvs
    refine ⟨.tuple us.toArray, ?_, us, rs, rfl⟩
    have hl : us.toArray.size ≠ 1 := by
      intro e
      have := RVs.length rs
      simp at e
      rw [e] at this
      obtain ⟨x, hx⟩ := List.length_eq_one_iff.1 this
      exact hne x hx
    rw [hres]
    simp only [Sem.run_bind, h1, Result.andThen_ok, Sem.run_pure]
    rw [dif_neg hl]
  · cases h

/-! ### a function's body -/
theorem Adv.callee {ρ ρ' : Map} {s s' : St} {w w' : World} (h : Adv base (Own s.fc) ρ ⟨s.h, s.fc + 1⟩ w ρ' s' w') : Adv base (fun _ => False) ρ s w ρ' s' w' :=
  ⟨h.st, Nat.le_trans (Nat.le_succ _) h.fc, fun i hi _ => h.keep i (by show i < (s.fc + 1) * KK; rw [succ_KK]; omega) (by rintro ⟨h1, _⟩; omega), h.hi⟩

def act0 (fn : Func) (vs : List Value) : Act := { tmps := vs.toArray ++ Array.replicate (fn.ntmps - vs.toArray.size) undef, defers := [] }
theorem act0_rf {ρ : Map} {fn : Func} {args : List AV} {vs : List Value} (r : RVs ρ args vs) (fno : Nat) (rc : Rc) : RF ρ ⟨fno, 0, Nat.max fn.ntmps args.length, T.setList .e 0 args, [], rc⟩ (act0 fn vs) := by
  have hl := RVs.length r
  refine ⟨?_, fun t => ?_⟩
  · have : Nat.max fn.ntmps args.length = max fn.ntmps args.length := rfl
    simp only [act0, Array.size_append, Array.size_replicate, List.size_toArray, this]
    omega
  · simp only [T.get_setList, Nat.zero_le, true_and, Nat.zero_add, Nat.sub_zero]
    by_cases ht : t < args.length
    · rw [if_pos ht]
      have ha : args[t]? = some args[t] := by simp [ht]
      obtain ⟨y, hy, ry⟩ := RVs.get r t _ ha
      rw [ha]
      have : (act0 fn vs).tmps.getD t undef = y := by
        have hlt : t < vs.length := by omega
        have e1 : (act0 fn vs).tmps[t]? = some y := by
          simp only [act0]
          rw [Array.getElem?_append_left (by simpa using hlt)]
          simpa using hy
        simp [e1]
      rw [this]; exact ry
    · rw [if_neg ht]
      have hg : (T.e : T AV).get t = none := by cases t <;> rfl
      have : (act0 fn vs).tmps.getD t undef = undef := by
        have hge : vs.toArray.size ≤ t := by simp; omega
        cases hq : (act0 fn vs).tmps[t]? with
        | none => simp [hq]
        | some y =>
          have hq' := hq
          simp only [act0] at hq'
          rw [Array.getElem?_append_right hge] at hq'
          simp only [Array.getElem?_replicate] at hq'
          split at hq'
          · cases hq'; simp [hq]
          · cases hq'
      rw [this]
      first | (rw [hg]; exact rv_undef _) | exact rv_undef _

/-- how a body ends -/
def BPost (G : Glob) (base : Nat) (cs0 : List Frame) (rc : Rc) (ρ0 : Map) (s0 : St) (w0 : World) (outs : List (Ex × Fr × St)) (e : Exit) (a' : Act) (cs' : List Frame) (w' : World) : Prop :=
  ∃ x fr' s' ρ', (x, fr', s') ∈ outs ∧ RX ρ' x e ∧ RF ρ' fr' a' ∧ RM G base ρ' s' w' ∧ RD ρ' fr'.df a'.defers ∧ Adv base (fun _ => False) ρ0 s0 w0 ρ' s' w' ∧ RCx ρ' fr'.rc cs0 cs' ∧ (rc = .no → fr'.rc = .no)

theorem body_sound {call : CallF} (HC : CallOK P G base call) (hm : P.follows .mixedOrders = true) {m : Nat} {fn : Func} {args : List AV} {s : St} {rc : Rc} {l : List (Ex × Fr × St)} (h : body P G call m fn args s rc = some l) {ρ : Map} {vs : List Value} {w : World} (rv : RVs ρ args vs) (rm : RM G base ρ s w) :
    ∃ c, fn.body = some c ∧ ∀ cs0 cs, RCx ρ rc cs0 cs → WP P (FrOK rc) c (BPost G base cs0 rc ρ s w l) (act0 fn vs) cs w := by
  unfold body at h
  split at h
  · cases h
  · rename_i c hc
    refine ⟨c, hc, fun cs0 cs hcs => ?_⟩
    obtain ⟨h0, fc⟩ := s
    simp only [natC_eq, T.setListC_eq] at h
    have rs : RS G base 0 ρ ⟨fc, 0, Nat.max fn.ntmps args.length, T.setList .e 0 args, [], rc⟩ ⟨h0, fc + 1⟩ (act0 fn vs) w := by
      have hi : ∀ i, fc * KK ≤ i → ρ i = none := rm.hi
      refine ⟨act0_rf rv fc rc, ⟨rm.rh, rm.rg, rm.bs, fun i h1 => hi i ?_⟩, fun i h1 _ => hi i ?_, Nat.lt_succ_self _, rfl⟩
      · have h1 : (fc + 1) * KK ≤ i := h1
        rw [succ_KK] at h1; omega
      · have h1 : fc * KK + (0 + 0) ≤ i := h1
        omega
    have := code_sound (cs0 := cs0) HC hm m c _ _ l h ρ (act0 fn vs) cs w rs hcs
    refine this.mono ?_
    rintro e a' cs' w' ⟨x, fr', s', ρ', h1, h2, h3, h4, h5, h6, h7, h8⟩
    exact ⟨x, fr', s', ρ', h1, h2, h3.rf, h3.rm, h3.df, Adv.callee (s := ⟨h0, fc⟩) h4, h6, h8⟩

/-! ### what is deferred -/
def RL (ρ : Map) : Lv → FrameMode → Prop
  | .back, m => m = .returning
  | .pan v, m => ∃ u, RV ρ v u ∧ m = .panicking [{ v := u, recovered := false }]
theorem RL.mono {ρ ρ' : Map} (h : Mono ρ ρ') : ∀ {u : Lv} {m : FrameMode}, RL ρ u m → RL ρ' u m
  | .back, _, r => r
  | .pan _, _, ⟨u, r, e⟩ => ⟨u, RV.mono h _ _ r, e⟩

theorem deferred_ends {u : Lv} {fn : Func} : ∀ {l : List (Ex × Fr × St)} {res : List (Lv × St)}, deferred.ends P G u fn l = some res → ∀ e fr s, (e, fr, s) ∈ l →
    (e = .normal ∨ e = .ret) ∧ fr.df = [] ∧ (∃ v, resultOf P G fr s.h fn.results = some v) ∧
      ((u = .back ∧ fr.rc = .idle ∧ (Lv.back, s) ∈ res) ∨ (∃ v v', u = .pan v ∧ fr.rc = .live v' true ∧ (Lv.back, s) ∈ res) ∨ (∃ v v', u = .pan v ∧ fr.rc = .live v' false ∧ (Lv.pan v', s) ∈ res))
  | [], _, _, e, fr, s, hm => by cases hm
  | (e0, fr0, s0) :: rest, res, h, e, fr, s, hm => by
    simp only [deferred.ends] at h
    split at h
    · cases h
    · rename_i b hb
      have ih := deferred_ends hb e fr s
      have fin : ∀ x, (match u, fr0.rc with
          | .back, .idle => some ((Lv.back, s0) :: b)
          | .pan _, .live _ true => some ((.back, s0) :: b)
          | .pan _, .live v false => some ((.pan v, s0) :: b)
          | _, _ => none) = some res → resultOf P G fr0 s0.h fn.results = some x → fr0.df = [] → (e0 = .normal ∨ e0 = .ret) → 
          (e = .normal ∨ e = .ret) ∧ fr.df = [] ∧ (∃ v, resultOf P G fr s.h fn.results = some v) ∧
            ((u = .back ∧ fr.rc = .idle ∧ (Lv.back, s) ∈ res) ∨ (∃ v v', u = .pan v ∧ fr.rc = .live v' true ∧ (Lv.back, s) ∈ res) ∨ (∃ v v', u = .pan v ∧ fr.rc = .live v' false ∧ (Lv.pan v', s) ∈ res)) := by
        intro x h' hx hdf he0
        clear h
        split at h'
        · rename_i hrc
          cases h'
          rcases List.mem_cons.1 hm with q | q
          · cases q; exact ⟨he0, hdf, ⟨x, hx⟩, .inl ⟨rfl, hrc, List.mem_cons_self⟩⟩
          · obtain ⟨h1, h2, h3, h4⟩ := ih q
            refine ⟨h1, h2, h3, ?_⟩
            rcases h4 with ⟨e1, e2, e3⟩ | ⟨v, v', e1, e2, e3⟩ | ⟨v, v', e1, e2, e3⟩
            · exact .inl ⟨e1, e2, List.mem_cons_of_mem _ e3⟩
            · cases e1
            · cases e1
        · rename_i v0 v1 hrc
          cases h'
          rcases List.mem_cons.1 hm with q | q
          · cases q; exact ⟨he0, hdf, ⟨x, hx⟩, .inr (.inl ⟨_, _, rfl, hrc, List.mem_cons_self⟩)⟩
          · obtain ⟨h1, h2, h3, h4⟩ := ih q
            refine ⟨h1, h2, h3, ?_⟩
            rcases h4 with ⟨e1, e2, e3⟩ | ⟨v, v', e1, e2, e3⟩ | ⟨v, v', e1, e2, e3⟩
            · cases e1
            · exact .inr (.inl ⟨v, v', e1, e2, List.mem_cons_of_mem _ e3⟩)
            · exact .inr (.inr ⟨v, v', e1, e2, List.mem_cons_of_mem _ e3⟩)
        · rename_i v0 v1 hrc
          cases h'
          rcases List.mem_cons.1 hm with q | q
          · cases q; exact ⟨he0, hdf, ⟨x, hx⟩, .inr (.inr ⟨_, _, rfl, hrc, List.mem_cons_self⟩)⟩
          · obtain ⟨h1, h2, h3, h4⟩ := ih q
            refine ⟨h1, h2, h3, ?_⟩
            rcases h4 with ⟨e1, e2, e3⟩ | ⟨v, v', e1, e2, e3⟩ | ⟨v, v', e1, e2, e3⟩
            · cases e1
            · exact .inr (.inl ⟨v, v', e1, e2, List.mem_cons_of_mem _ e3⟩)
            · exact .inr (.inr ⟨v, v', e1, e2, List.mem_cons_of_mem _ e3⟩)
        · cases h'
      split at h
      · rename_i x hdf hx
        exact fin x h hx hdf (.inl rfl)
      · rename_i x hdf hx
        exact fin x h hx hdf (.inr rfl)
      · cases h
end Go.Ai
