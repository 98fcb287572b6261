/- A part of an evaluator over an abstract heap and of the proof that it is sound for the model. CONDITIONS: those that each theorem names. -/
import Derived.Test.YtneoghpfbgjaiaaGreatDoorAiCong
import Derived.Test.YtneoghpfbgjaiaaGreatDoorAiEval
import Derived.Recover
import Derived.Orders
namespace Go.Ai
open Go
variable {P : Program} {G : Glob} {base : Nat}

def KK : Nat := 16777216
theorem key_eq (fr : Fr) (i : Nat) : keyOf fr i = fr.fno * KK + (fr.lc + i) := rfl
theorem succ_KK (n : Nat) : (n + 1) * KK = n * KK + KK := by rw [Nat.add_mul, Nat.one_mul]

/-- what an operation or a call may change -/
structure Adv (base : Nat) (ok : Nat → Prop) (ρ : Map) (s : St) (w : World) (ρ' : Map) (s' : St) (w' : World) : Prop where
  st : Stp ρ base (hget s.h) w ρ' (hget s'.h) w'
  fc : s.fc ≤ s'.fc
  keep : ∀ i, i < s.fc * KK → ¬ ok i → ρ' i = ρ i
  hi : ∀ i, s'.fc * KK ≤ i → ρ' i = none

theorem Adv.refl {ok : Nat → Prop} {ρ : Map} {s : St} {w : World} (r : RH ρ base (hget s.h) w) (h : ∀ i, s.fc * KK ≤ i → ρ i = none) : Adv base ok ρ s w ρ s w :=
  ⟨Stp.same r, Nat.le_refl _, fun _ _ _ => rfl, h⟩
theorem Adv.trans {ok : Nat → Prop} {ρ ρ1 ρ2 : Map} {s s1 s2 : St} {w w1 w2 : World} (h : Adv base ok ρ s w ρ1 s1 w1) (k : Adv base ok ρ1 s1 w1 ρ2 s2 w2) : Adv base ok ρ s w ρ2 s2 w2 :=
  ⟨h.st.trans k.st, Nat.le_trans h.fc k.fc, fun i hi hn => (k.keep i (Nat.lt_of_lt_of_le hi (Nat.mul_le_mul_right _ h.fc)) hn).trans (h.keep i hi hn), k.hi⟩
theorem Adv.mono {ok ok' : Nat → Prop} {ρ ρ1 : Map} {s s1 : St} {w w1 : World} (h : Adv base ok ρ s w ρ1 s1 w1) (hk : ∀ i, i < s.fc * KK → ok i → ok' i) : Adv base ok' ρ s w ρ1 s1 w1 :=
  ⟨h.st, h.fc, fun i hi hn => h.keep i hi (fun ho => hn (hk i hi ho)), h.hi⟩

/-- the memory that a call finds -/
structure RM (G : Glob) (base : Nat) (ρ : Map) (s : St) (w : World) : Prop where
  rh : RH ρ base (hget s.h) w
  rg : RG G base w
  bs : base ≤ w.heap.size
  hi : ∀ i, s.fc * KK ≤ i → ρ i = none
theorem RM.adv {ok : Nat → Prop} {ρ ρ' : Map} {s s' : St} {w w' : World} (r : RM G base ρ s w) (h : Adv base ok ρ s w ρ' s' w') : RM G base ρ' s' w' :=
  ⟨h.st.rh, r.rg.keeps h.st.keeps (owns_base r.rh), Nat.le_trans r.bs h.st.keeps.size, h.hi⟩

/-- how a call ends -/
def CallPost (base : Nat) (ρ : Map) (s : St) (w : World) (outs : List Out) : Ending → World → Prop := fun e w' =>
  ∃ ρ', (∃ v s' u, Out.val v s' ∈ outs ∧ e = .returned u ∧ RV ρ' v u ∧ Adv base (fun _ => False) ρ s w ρ' s' w') ∨
    (∃ v s' u, Out.pan v s' ∈ outs ∧ e = .panicked [{ v := u, recovered := false }] ∧ RV ρ' v u ∧ Adv base (fun _ => False) ρ s w ρ' s' w')

/-- a call, where it is made -/
def Meets (P : Program) (r : Result Next) (R : Ending → World → Prop) : Prop :=
  match r with
  | .ok (.value v) w' => R (.returned v) w'
  | .ok (.enter f args) w' => Calls P f args w' R
  | _ => False

def CallOK (P : Program) (G : Glob) (base : Nat) (call : CallF) : Prop :=
  ∀ f args s outs, call f args s = some outs → ∀ ρ w vs, RVs ρ args vs → RM G base ρ s w → Meets P ((callFunc f vs.toArray).run P w) (CallPost base ρ s w outs)

theorem Meets.upon {o : Oper} {a : Act} {K : Act → World → Prop} {Q : Exit → Act → World → Prop} {r : Result Next} {R : Ending → World → Prop} (h : Meets P r R)
    (hK : ∀ u w', R (.returned u) w' → K (a.put o.dst u) w') (hQ : ∀ ch w', R (.panicked ch) w' → Q (.panic ch) a w') (hR : ∀ w', ¬ R .outgrown w') : o.upon P a K Q r := by
  unfold Meets at h
  split at h
  · rename_i v w'; rw [Oper.upon_value]; exact hK _ _ h
  · rename_i f args w'
    rw [Oper.upon_enter]
    refine h.mono fun e w'' he => ?_
    cases e with
    | returned v => exact hK _ _ he
    | panicked ch => exact hQ _ _ he
    | outgrown => exact (hR _ he).elim
  · exact h.elim

section
variable {ρ : Map} {fr : Fr} {a : Act} {key : Nat} {s : St} {w : World} {outs : List Out}

/-! ### the function behind a method -/
theorem methodA_sound {t : TypeId} {v rv : AV} {name : String} {f : FuncId} {u : Value} (h : methodA P t v name = some (f, rv)) (r : RV ρ v u) (n : Nat) (w : World) :
    ∃ ru, (method (n + 1) t u name).run P w = .ok (f, ru) w ∧ RV ρ rv ru := by
  unfold methodA at h
  split at h
  · rename_i i hi
    split at h
    · rename_i m hm
      split at h
      · rename_i f' pr hpath hfun
        have hpe : m.path = #[] := Array.toList_inj.1 (by simpa using hpath)
        have base : (method (n + 1) t u name).run P w = ((do pure (f', ← receiverAt t (.val u) pr (if m.path.isEmpty then some ((name.splitOn ".").getLastD name) else none)) : Sem (FuncId × Value)).run P w) := by
          simp only [method, Sem.run_bind, run_typeInfo' hi, Result.andThen_ok, hm, hpath, follow, Sem.run_pure, hfun]
        split at h
        · rename_i e hd
          cases h
          refine ⟨u, ?_, r⟩
          rw [base]
          simp only [receiverAt, Sem.run_bind, run_und hd, Result.andThen_ok, Place.get, Sem.run_pure]
        · cases h
        · rename_i d hnp hd
          cases h
          refine ⟨u, ?_, r⟩
          rw [base]
          have hrec : (receiverAt t (.val u) false (if m.path.isEmpty then some ((name.splitOn ".").getLastD name) else none)).run P w = .ok u w := by
            cases d <;> first
              | (exact absurd rfl (hnp _))
              | (simp only [receiverAt, Sem.run_bind, run_und hd, Result.andThen_ok, Place.get, Sem.run_pure])
          simp only [Sem.run_bind, hrec, Result.andThen_ok, Sem.run_pure]
        · cases h
      · cases h
    · cases h
  · cases h

/-- a call of a function -/
theorem target_sound {dst : Option Tmp} {c : Call} {ty : TypeId} {pos : String} {after : Array Edge} {gd : Option (Nat × Bool)} (r : RF ρ fr a) {f : FuncId} {args : List AV} (h : target P fr c = some (f, args)) :
    ∃ vs, RVs ρ args vs ∧ (execOp a.eval ⟨dst, .call c, ty, pos, after, gd⟩).run P w = (callFunc f vs.toArray).run P w := by
  have e0 : execOp a.eval ⟨dst, .call c, ty, pos, after, gd⟩ = (do let d ← resolve a.eval c ty; invoke d.target d.args) := rfl
  unfold target at h
  split at h
  · rename_i fo hc
    split at h
    · rename_i g first captured as hf has
      cases h
      obtain ⟨first', cap', r1, r2, hfv⟩ := r.ev hf
      have ra := r.evs has
      refine ⟨first' ++ c.args.toList.map a.eval ++ cap', RVs.append (RVs.append r1 ra) r2, ?_⟩
      rw [e0]
      simp only [resolve, hc, hfv, Deferred.ofValue, Sem.run_bind, Sem.run_pure, Result.andThen_ok, invoke]
      congr 2
      apply Array.toList_inj.1
      simp
    · cases h
  · rename_i ro name hc
    split at h
    · rename_i t v as hf has
      split at h
      · rename_i f' rv hm
        cases h
        obtain ⟨y, ry, hy⟩ := r.ev hf
        have ra := r.evs has
        obtain ⟨ru, h1, h2⟩ := methodA_sound (P := P) hm ry (P.types.size + Made.depth - 1) w
        refine ⟨ru :: c.args.toList.map a.eval, ⟨ru, _, h2, ra, rfl⟩, ?_⟩
        rw [e0]
        have hdep : P.types.size + Made.depth - 1 + 1 = P.types.size + Made.depth := by
          have : 0 < Made.depth := by decide
          omega
        rw [hdep] at h1
        have hext : ((#[Value.iface t y] ++ c.args.map a.eval).extract 1 (#[Value.iface t y] ++ c.args.map a.eval).size) = c.args.map a.eval := by
          apply Array.toList_inj.1
          simp only [Array.toList_extract, Array.toList_append, Array.toList_map, List.extract_eq_take_drop, Array.size_append, Array.size_map]
          simp [List.take_of_length_le]
        have h0 : (#[Value.iface t y] ++ c.args.map a.eval)[0]? = some (.iface t y) := by
          rw [Array.getElem?_append_left (by simp)]; rfl
        simp only [resolve, hc, hy, Sem.run_bind, Sem.run_pure, Result.andThen_ok, invoke, h0, hext, callMethod, run_program, h1]
        congr 2
        apply Array.toList_inj.1
        simp
      · cases h
    · cases h
  · cases h

theorem AO.adv {s' : St} {v : AV} {run : Result Next} (rm : RM G base ρ s w) (hkey : key < s.fc * KK) (h : AO P ρ base key s w run (.val v s')) :
    ∃ ρ' w', Adv base (fun i => i = key) ρ s w ρ' s' w' ∧ ((∃ u, run = .ok (.value u) w' ∧ RV ρ' v u) ∨ (run = .ok .skip w' ∧ v = .undef)) := by
  obtain ⟨ρ', w', h1, h2, h3, h4⟩ := h
  refine ⟨ρ', w', ⟨h1, by omega, fun i _ hn => h2 i hn, fun i hi => ?_⟩, h4⟩
  rw [h3] at hi
  rw [h2 i (by omega)]
  exact rm.hi i hi

theorem some1_upon {o : Oper} {K : Act → World → Prop} {Q : Exit → Act → World → Prop} {run : Result Next} (rm : RM G base ρ s w) (hkey : key < s.fc * KK) (h : Some1 P ρ base key s w run outs)
    (hK : ∀ v s' u w' ρ', Out.val v s' ∈ outs → Adv base (fun i => i = key) ρ s w ρ' s' w' → RV ρ' v u → K (a.put o.dst u) w')
    (hQ : ∀ v s' u w' ρ', Out.pan v s' ∈ outs → Adv base (fun i => i = key) ρ s w ρ' s' w' → RV ρ' v u → Q (.panic [{ v := u, recovered := false }]) a w') : o.upon P a K Q run := by
  obtain ⟨x, hm, hx⟩ := h
  cases x with
  | val v s' =>
    obtain ⟨ρ', w', h1, h2⟩ := hx.adv rm hkey
    rcases h2 with ⟨u, hr, ru⟩ | ⟨hr, hv⟩
    · rw [hr, Oper.upon_value]; exact hK v s' u w' ρ' hm h1 ru
    · rw [hr, Oper.upon_skip]; exact hK v s' undef w' ρ' hm h1 (by rw [hv]; exact rv_undef _)
  | pan v s' =>
    obtain ⟨u, hr, ru, hs⟩ := hx
    subst hs
    rw [hr, Oper.upon_panic]
    exact hQ v s' u w ρ hm (Adv.refl rm.rh rm.hi) ru

/-- AN OPERATION THAT ACTS, OR A CALL. -/
theorem heavy_sound {call : CallF} (HC : CallOK P G base call) {o : Oper} {K : Act → World → Prop} {Q : Exit → Act → World → Prop} (rm : RM G base ρ s w) (r : RF ρ fr a) (hk : ρ key = none) (hkey : key < s.fc * KK) (h : heavy P call fr key s o.op = some outs)
    (hK : ∀ v s' u w' ρ', Out.val v s' ∈ outs → Adv base (fun i => i = key) ρ s w ρ' s' w' → RV ρ' v u → K (a.put o.dst u) w')
    (hQ : ∀ v s' u w' ρ', Out.pan v s' ∈ outs → Adv base (fun i => i = key) ρ s w ρ' s' w' → RV ρ' v u → Q (.panic [{ v := u, recovered := false }]) a w') : o.upon P a K Q ((execOp a.eval o).run P w) := by
  obtain ⟨dst, op, ty, pos, after, gd⟩ := o
  simp only at h
  unfold heavy at h
  split at h
  · rename_i c
    unfold heavyCall at h
    split at h
    · rename_i b hb
      exact some1_upon rm hkey (builtin_sound hb rm.rh hk rm.bs r h) hK hQ
    · cases ht : target P fr c with
      | none => rw [ht] at h; cases h
      | some q =>
        obtain ⟨f, args⟩ := q
        rw [ht] at h
        obtain ⟨vs, rv, hrun⟩ := target_sound (P := P) (dst := dst) (ty := ty) (pos := pos) (after := after) (gd := gd) (w := w) r ht
        rw [hrun]
        have hm := HC f args s outs h ρ w vs rv rm
        refine hm.upon ?_ ?_ ?_
        · rintro u w' ⟨ρ', ⟨v, s', u', hin, he, ru, hadv⟩ | ⟨v, s', u', hin, he, ru, hadv⟩⟩
          · cases he; exact hK v s' u w' ρ' hin (hadv.mono fun _ _ h => h.elim) ru
          · cases he
        · rintro ch w' ⟨ρ', ⟨v, s', u', hin, he, ru, hadv⟩ | ⟨v, s', u', hin, he, ru, hadv⟩⟩
          · cases he
          · cases he; exact hQ v s' u' w' ρ' hin (hadv.mono fun _ _ h => h.elim) ru
        · rintro w' ⟨ρ', ⟨v, s', u', hin, he, _⟩ | ⟨v, s', u', hin, he, _⟩⟩ <;> cases he
  · exact some1_upon rm hkey (act_sound rm.rh r h) hK hQ
end

/-! ### the frame -/
def RDef (ρ : Map) (x : AV × List AV) (d : Deferred) : Prop :=
  ∃ g first captured, x.1 = .fn (.func g) first captured ∧ ∃ f' c' a', RVs ρ first f' ∧ RVs ρ captured c' ∧ RVs ρ x.2 a' ∧ d = { target := .fn (.func g) c'.toArray, args := (f' ++ a').toArray }
def RD (ρ : Map) : List (AV × List AV) → List Deferred → Prop
  | [], l => l = []
  | x :: xs, l => ∃ d ds, RDef ρ x d ∧ RD ρ xs ds ∧ l = d :: ds
theorem RDef.mono {ρ ρ' : Map} (h : Mono ρ ρ') {x : AV × List AV} {d : Deferred} : RDef ρ x d → RDef ρ' x d := by
  rintro ⟨g, fi, ca, e, f', c', a', r1, r2, r3, hd⟩
  exact ⟨g, fi, ca, e, f', c', a', RVs.mono h _ _ r1, RVs.mono h _ _ r2, RVs.mono h _ _ r3, hd⟩
theorem RD.mono {ρ ρ' : Map} (h : Mono ρ ρ') : ∀ {x : List (AV × List AV)} {l : List Deferred}, RD ρ x l → RD ρ' x l
  | [], _, r => r
  | _ :: _, _, ⟨d, ds, r, rs, e⟩ => ⟨d, ds, r.mono h, RD.mono h rs, e⟩

def RCx (ρ : Map) (rc : Rc) (cs0 cs : List Frame) : Prop :=
  match rc with
  | .no => cs = cs0
  | .idle => cs = cs0 ∧ ∃ c rest, cs0 = c :: rest ∧ c.mode = .returning
  | .live v d => ∃ c rest u, cs0 = c :: rest ∧ RV ρ v u ∧ cs = { c with mode := .panicking [{ v := u, recovered := d }] } :: rest
theorem RCx.mono {ρ ρ' : Map} (h : Mono ρ ρ') {rc : Rc} {cs0 cs : List Frame} (r : RCx ρ rc cs0 cs) : RCx ρ' rc cs0 cs := by
  cases rc with
  | no => exact r
  | idle => exact r
  | live v d => obtain ⟨c, rest, u, h1, h2, h3⟩ := r; exact ⟨c, rest, u, h1, RV.mono h _ _ h2, h3⟩
def FrOK (rc : Rc) (b : Frame) : Prop :=
  match rc with
  | .no => True
  | _ => b.kind = .deferred ∧ b.roundOf = none

/-- the frame and the memory -/
structure RS (G : Glob) (base : Nat) (n : Nat) (ρ : Map) (fr : Fr) (s : St) (a : Act) (w : World) : Prop where
  rf : RF ρ fr a
  rm : RM G base ρ s w
  lo : ∀ i, fr.fno * KK + (fr.lc + n) ≤ i → i < (fr.fno + 1) * KK → ρ i = none
  fn : fr.fno < s.fc
  df : RD ρ fr.df a.defers

/-- the names of the frame -/
abbrev Own (fno : Nat) (i : Nat) : Prop := fno * KK ≤ i ∧ i < (fno + 1) * KK
theorem put_defers (a : Act) (d : Option Tmp) (v : Value) : (a.put d v).defers = a.defers := by cases d <;> rfl
end Go.Ai
