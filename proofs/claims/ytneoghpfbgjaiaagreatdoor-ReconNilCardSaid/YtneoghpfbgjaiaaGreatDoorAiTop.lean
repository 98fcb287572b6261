/- A part of an evaluator over an abstract heap and of the proof that it is sound for the model. CONDITIONS: those that each theorem names. -/
import Derived.Test.YtneoghpfbgjaiaaGreatDoorAiCall2
namespace Go.Ai
open Go
variable {P : Program} {G : Glob}

/-! ### what is remembered -/
noncomputable def scalA : AV → Bool
  | .bool _ | .int _ _ | .str _ | .nilp | .nils | .nilm | .nilf | .nili => true
  | _ => false
noncomputable def scalL : List AV → Bool
  | [] => true
  | v :: vs => match scalA v with
    | true => scalL vs
    | false => false
noncomputable def plainA : AV → Bool
  | .agg vs => scalL vs
  | .tup vs => scalL vs
  | v => scalA v
noncomputable def plainL : List AV → Bool
  | [] => true
  | v :: vs => match plainA v with
    | true => plainL vs
    | false => false
noncomputable def memoOne : Outs → Option AV
  | some [.val v _] => match plainA v with
    | true => some v
    | false => none
  | _ => none
noncomputable def memoX (P : Program) (G : Glob) (X : Ext) (m n : Nat) (sel : Nat → Bool) : Ext := fun f args =>
  match sel f, plainL args with
  | true, true => memoOne (call P G X m n f args ⟨.e, 0⟩)
  | _, _ => X f args

theorem scalA_rv {v : AV} (h : scalA v = true) {ρ ρ' : Map} {u : Value} (r : RV ρ v u) : RV ρ' v u := by
  cases v <;> first | exact r | simp [scalA] at h
theorem scalL_rv : ∀ {vs : List AV}, scalL vs = true → ∀ {ρ ρ' : Map} {us : List Value}, RVs ρ vs us → RVs ρ' vs us
  | [], _, _, _, _, r => r
  | v :: vs, h, ρ, ρ', us, ⟨x, xs, rx, rs, e⟩ => by
    simp only [scalL] at h
    split at h
    · rename_i hv; exact ⟨x, xs, scalA_rv hv rx, scalL_rv h rs, e⟩
    · cases h
theorem plainA_rv {v : AV} (h : plainA v = true) {ρ ρ' : Map} {u : Value} (r : RV ρ v u) : RV ρ' v u := by
  cases v with
  | agg vs => obtain ⟨us, rs, e⟩ := r; exact ⟨us, scalL_rv h rs, e⟩
  | tup vs => obtain ⟨us, rs, e⟩ := r; exact ⟨us, scalL_rv h rs, e⟩
  | bool _ | int _ _ | str _ | nilp | nils | nilm | nilf | nili => exact r
  | _ => simp [plainA, scalA] at h
theorem plainL_rv : ∀ {vs : List AV}, plainL vs = true → ∀ {ρ ρ' : Map} {us : List Value}, RVs ρ vs us → RVs ρ' vs us
  | [], _, _, _, _, r => r
  | v :: vs, h, ρ, ρ', us, ⟨x, xs, rx, rs, e⟩ => by
    simp only [plainL] at h
    split at h
    · rename_i hv; exact ⟨x, xs, plainA_rv hv rx, plainL_rv h rs, e⟩
    · cases h

theorem rm_empty {base : Nat} {w : World} (rg : RG G base w) (hb : base ≤ w.heap.size) : RM G w.heap.size (fun _ => none) ⟨.e, 0⟩ w := by
  have he : ∀ i, hget (.e : Heap) i = none := fun i => by
    simp only [hget]
    cases hq : (T.e : T (T AB)).get (i / 16777216) <;> first | rfl | skip
    all_goals simp_all [T.get]
  refine ⟨⟨(fun i ab hi _ => absurd hi (by rw [he]; simp)), (fun i j e e' ⟨ab, hi, _⟩ => absurd hi (by rw [he]; simp))⟩, fun g l hg => ?_, Nat.le_refl _, fun _ _ => rfl⟩
  obtain ⟨h1, h2⟩ := rg g l hg
  exact ⟨by omega, h2⟩

/-- A CALL IN AN EMPTY MEMORY. -/
theorem call_empty {X : Ext} (HX : XOK P G X) (hm : P.follows .mixedOrders = true) (hn : NoNum P) {m n f : Nat} {args : List AV} {outs : List Out} (h : call P G X m n f args ⟨.e, 0⟩ = some outs) (hp : plainL args = true) {ρ : Map} {base : Nat} {w : World} {vs : List Value} (rv : RVs ρ args vs) (rg : RG G base w) (hb : base ≤ w.heap.size) :
    Meets P ((callFunc f vs.toArray).run P w) fun e w' => Keeps (fun _ => False) w w' ∧ ∃ ρ', (∃ v s' u, Out.val v s' ∈ outs ∧ e = .returned u ∧ RV ρ' v u) ∨ (∃ v s' u, Out.pan v s' ∈ outs ∧ e = .panicked [{ v := u, recovered := false }] ∧ RV ρ' v u) := by
  have rm := rm_empty rg hb
  refine (call_sound HX hm hn m n f args _ outs h _ w vs (plainL_rv hp rv) rm).mono ?_
  have keep : ∀ {ρ' : Map} {s' : St} {w' : World}, Adv w.heap.size (fun _ => False) (fun _ => none) ⟨.e, 0⟩ w ρ' s' w' → Keeps (fun _ => False) w w' := fun h =>
    ⟨h.st.keeps.os, h.st.keeps.tape, h.st.keeps.output, h.st.keeps.size, fun b hb _ => h.st.keeps.block b hb (by rintro ⟨i, e, _, he, _⟩; cases he)⟩
  rintro e w' ⟨ρ', ⟨v, s', u, h1, h2, h3, h4⟩ | ⟨v, s', u, h1, h2, h3, h4⟩⟩
  · exact ⟨keep h4, ρ', .inl ⟨v, s', u, h1, h2, h3⟩⟩
  · exact ⟨keep h4, ρ', .inr ⟨v, s', u, h1, h2, h3⟩⟩

theorem memo_ok {X : Ext} (HX : XOK P G X) (hm : P.follows .mixedOrders = true) (hn : NoNum P) (m n : Nat) (sel : Nat → Bool) : XOK P G (memoX P G X m n sel) := by
  intro f args v h ρ base w vs rv rg hb
  unfold memoX at h
  split at h
  · rename_i hp
    unfold memoOne at h
    split at h
    · rename_i v' s' hc
      split at h
      · rename_i hpl
        cases h
        refine (call_empty HX hm hn hc hp rv rg hb).mono ?_
        rintro e w' ⟨hk, ρ', ⟨v2, s2, u, h1, h2, h3⟩ | ⟨v2, s2, u, h1, h2, h3⟩⟩
        · cases List.mem_singleton.1 h1
          exact ⟨u, h2, plainA_rv hpl h3, hk⟩
        · cases List.mem_singleton.1 h1
      · cases h
    · cases h
  · exact HX f args v h ρ base w vs rv rg hb

/-- do all the ways out answer true? -/
noncomputable def allTrue : List Out → Bool
  | [] => true
  | .val (.bool true) _ :: r => allTrue r
  | _ => false
noncomputable def saysTrue : Outs → Bool
  | some l => allTrue l
  | none => false
theorem allTrue_spec : ∀ {l : List Out}, allTrue l = true → ∀ o ∈ l, ∃ s, o = .val (.bool true) s
  | [], _, o, h => by cases h
  | .val (.bool true) s :: r, h, o, hm => by
    rcases List.mem_cons.1 hm with e | e
    · exact ⟨s, e⟩
    · exact allTrue_spec (by simpa [allTrue] using h) o e
  | .val (.bool false) s :: r, h, o, hm => by simp [allTrue] at h
  | .pan _ _ :: r, h, o, hm => by simp [allTrue] at h
  | .val (.int _ _) _ :: r, h, o, hm | .val (.str _) _ :: r, h, o, hm | .val .nilp _ :: r, h, o, hm | .val (.ptr _ _) _ :: r, h, o, hm | .val (.gptr _ _) _ :: r, h, o, hm | .val .nils _ :: r, h, o, hm
  | .val (.slice ..) _ :: r, h, o, hm | .val .nilm _ :: r, h, o, hm | .val (.map _) _ :: r, h, o, hm | .val (.fn ..) _ :: r, h, o, hm | .val .nilf _ :: r, h, o, hm | .val (.iface ..) _ :: r, h, o, hm | .val .nili _ :: r, h, o, hm
  | .val (.agg _) _ :: r, h, o, hm | .val (.tup _) _ :: r, h, o, hm => by simp [allTrue] at h

/-- A LAW WITHOUT PARAMETERS. -/
theorem says_true {X : Ext} (HX : XOK P G X) (hm : P.follows .mixedOrders = true) (hn : NoNum P) {m n f : Nat} (h : saysTrue (call P G X m n f [] ⟨.e, 0⟩) = true) {fn : Func} {c : Code} (hf : P.funcs[f]? = some fn) (hb : fn.body = some c) {base : Nat} {w : World} (rg : RG G base w) (hbs : base ≤ w.heap.size) :
    Calls P f #[] w fun e w' => e = .returned (.bool true) ∧ Keeps (fun _ => False) w w' := by
  unfold saysTrue at h
  split at h
  · rename_i l hl
    have := call_empty HX hm hn hl rfl (ρ := fun _ => none) (vs := []) rfl rg hbs
    have e0 : ([] : List Value).toArray = #[] := rfl
    rw [e0, callFunc_enter hn hf hb] at this
    refine Calls.mono (this : Calls P f #[] w _) ?_
    rintro e w' ⟨hk, ρ', ⟨v, s', u, h1, h2, h3⟩ | ⟨v, s', u, h1, h2, h3⟩⟩
    · obtain ⟨s, hs⟩ := allTrue_spec h _ h1
      cases hs
      simp only [RV] at h3
      subst h3
      exact ⟨h2, hk⟩
    · obtain ⟨s, hs⟩ := allTrue_spec h _ h1
      cases hs
  · cases h
end Go.Ai
