/- A part of an evaluator over an abstract heap and of the proof that it is sound for the model. CONDITIONS: those that each theorem names. -/
import Derived.Test.YtneoghpfbgjaiaaGreatDoorAiText2
namespace Go.Ai
open Go

/-! ### numbers as sets -/
theorem covers_spec {a b : Nat} (h : covers a b = true) {j : Nat} (hb : b.testBit j = true) : a.testBit j = true := by
  have h := Nat.eq_of_beq_eq_true h
  have : (a &&& b).testBit j = b.testBit j := congrArg (fun x => Nat.testBit x j) h
  rw [Nat.testBit_and, hb, Bool.and_true] at this
  exact this
theorem lor_spec (a i j : Nat) : (Nat.lor a (2 ^ i)).testBit j = (a.testBit j || decide (i = j)) := by
  show (a ||| 2 ^ i).testBit j = _
  rw [Nat.testBit_or, Nat.testBit_two_pow]

theorem clsHeavy_iff (o : Oper) : isHeavy o = true ↔ clsOf o.op = .heavy := by
  unfold isHeavy
  split <;> simp_all

/-! ### who stands ahead -/
theorem predsOf_spec (acc : List Nat) : ∀ (es : List Edge) (s j : Nat), (predsOf acc es s).testBit j = true ↔ (s.testBit j = true ∨ ∃ e ∈ es, Region.binds .any e = true ∧ (e.on = j ∨ (acc.getD e.on 0).testBit j = true))
  | [], s, j => by simp [predsOf]
  | e :: es, s, j => by
    rw [predsOf, predsOf_spec acc es]
    cases hb : Region.binds .any e with
    | false => simp [hb]
    | true =>
      simp only
      rw [Nat.testBit_or, Nat.testBit_or, Nat.testBit_two_pow]
      simp only [Bool.or_eq_true, decide_eq_true_eq, List.mem_cons, exists_eq_or_imp, hb, true_and]
      constructor
      · rintro (((h | h) | h) | h)
        · exact .inl h
        · exact .inr (.inl (.inl h))
        · exact .inr (.inl (.inr h))
        · exact .inr (.inr h)
      · rintro (h | (h | h) | h)
        · exact .inl (.inl (.inl h))
        · exact .inl (.inl (.inr h))
        · exact .inl (.inr h)
        · exact .inr h

theorem befores_prefix : ∀ (ops : List Oper) (acc : List Nat), ∃ r, befores ops acc = acc ++ r ∧ r.length = ops.length
  | [], acc => ⟨[], by simp [befores], rfl⟩
  | o :: os, acc => by
    obtain ⟨r, h1, h2⟩ := befores_prefix os (acc ++ [predsOf acc o.after.toList 0])
    exact ⟨predsOf acc o.after.toList 0 :: r, by simp [befores, h1], by simp [h2]⟩

theorem befores_spec : ∀ (ops : List Oper) (acc : List Nat) (i : Nat) (o : Oper), ops[i]? = some o →
    (befores ops acc)[acc.length + i]? = some (predsOf ((befores ops acc).take (acc.length + i)) o.after.toList 0)
  | [], acc, i, o, h => by simp at h
  | o' :: os, acc, 0, o, h => by
    simp at h; subst h
    obtain ⟨r, h1, _⟩ := befores_prefix os (acc ++ [predsOf acc o'.after.toList 0])
    rw [befores, h1]
    simp
  | o' :: os, acc, i + 1, o, h => by
    have := befores_spec os (acc ++ [predsOf acc o'.after.toList 0]) i o (by simpa using h)
    rw [befores]
    simp only [List.length_append, List.length_singleton] at this
    rw [show acc.length + (i + 1) = acc.length + 1 + i by omega]
    exact this

structure Bef (ops : Array Oper) (bs : List Nat) : Prop where
  len : bs.length = ops.size
  spec : ∀ (i b : Nat) (o : Oper), ops[i]? = some o → bs[i]? = some b → ∀ j, b.testBit j = true ↔ ∃ e ∈ o.after.toList, Region.binds .any e = true ∧ (e.on = j ∨ (e.on < i ∧ ∃ b', bs[e.on]? = some b' ∧ b'.testBit j = true))

theorem bef_befores (ops : Array Oper) : Bef ops (befores ops.toList []) := by
  obtain ⟨r, h1, h2⟩ := befores_prefix ops.toList []
  refine ⟨by rw [h1]; simp [h2], fun i b o ho hb j => ?_⟩
  have := befores_spec ops.toList [] i o (by simpa using ho)
  simp only [List.length_nil, Nat.zero_add] at this
  rw [hb] at this
  cases this
  rw [predsOf_spec]
  simp only [Nat.zero_testBit, Bool.false_eq_true, false_or]
  have key : ∀ e : Edge, ((((befores ops.toList []).take i).getD e.on 0).testBit j = true) ↔ (e.on < i ∧ ∃ b', (befores ops.toList [])[e.on]? = some b' ∧ b'.testBit j = true) := by
    intro e
    rw [List.getD_eq_getElem?_getD, List.getElem?_take]
    by_cases hlt : e.on < i
    · rw [if_pos hlt]
      cases hg : (befores ops.toList [])[e.on]? with
      | none => simp
      | some b' => simp [hlt]
    · rw [if_neg hlt]
      simp [hlt]
  simp only [key]

/-- what is listed is closed -/
def Closed (ops : Array Oper) (L : Nat → Prop) : Prop := ∀ i o, L i → ops[i]? = some o → ∀ e ∈ o.after.toList, Region.binds .any e = true → L e.on
theorem Bef.sub {ops : Array Oper} {bs : List Nat} (hB : Bef ops bs) {L : Nat → Prop} (hL : Closed ops L) : ∀ (i b : Nat) (o : Oper), ops[i]? = some o → bs[i]? = some b → (∀ e ∈ o.after.toList, Region.binds .any e = true → L e.on) → ∀ j, b.testBit j = true → L j := by
  intro i
  induction i using Nat.strongRecOn with
  | _ i ih =>
    intro b o ho hb hed j hj
    obtain ⟨e, he, hbi, h | ⟨hlt, b', hb', hj'⟩⟩ := (hB.spec i b o ho hb j).1 hj
    · subst h; exact hed e he hbi
    · have hle := hed e he hbi
      have hsz : e.on < ops.size := by rw [← hB.len]; exact (List.getElem?_eq_some_iff.1 hb').1
      have ho' : ops[e.on]? = some ops[e.on] := by simp [hsz]
      exact ih e.on hlt b' _ ho' hb' (fun e' he' hbi' => hL e.on _ hle ho' e' he' hbi') j hj'

/-! ### the order -/
theorem pickE_mem (k : Nat) (hv : Bool) : ∀ {l : List DE} {x : DE}, x ∈ pickE k hv l → x ∈ l
  | [], x, h => by simp [pickE] at h
  | (i, b, st, o) :: r, x, h => by
    simp only [pickE] at h
    split at h
    · rcases List.mem_cons.1 h with e | e
      · rw [e]; exact List.mem_cons_self
      · exact List.mem_cons_of_mem _ (pickE_mem k _ e)
    · rcases List.mem_cons.1 h with e | e
      · rw [e]; exact List.mem_cons_self
      · exact List.mem_cons_of_mem _ (pickE_mem k _ e)
    · exact List.mem_cons_of_mem _ (pickE_mem k _ h)
theorem stages_mem {es : List DE} : ∀ {n k : Nat} {x : DE}, x ∈ stages es n k → x ∈ es
  | 0, _, x, h => by simp [stages] at h
  | n + 1, k, x, h => by
    simp only [stages, List.mem_append] at h
    rcases h with h | h | h
    · exact pickE_mem _ _ h
    · exact pickE_mem _ _ h
    · exact stages_mem h
theorem entsOf_mem {hs : List Nat} : ∀ {ops : List Oper} {bs : List Nat} {i : Nat} {x : DE}, x ∈ entsOf hs i ops bs → i ≤ x.1 ∧ ops[x.1 - i]? = some x.2.2.2 ∧ bs[x.1 - i]? = some x.2.1
  | [], bs, i, x, h => by cases bs <;> simp [entsOf] at h
  | o :: os, [], i, x, h => by simp [entsOf] at h
  | o :: os, b :: bs, i, x, h => by
    simp only [entsOf] at h
    rcases List.mem_cons.1 h with e | e
    · rw [e]; simp
    · obtain ⟨h1, h2, h3⟩ := entsOf_mem e
      simp only [Nat.succ_eq_add_one] at h1 h2 h3
      refine ⟨by omega, ?_, ?_⟩
      · rw [show x.1 - i = (x.1 - (i + 1)) + 1 by omega]; simpa using h2
      · rw [show x.1 - i = (x.1 - (i + 1)) + 1 by omega]; simpa using h3
theorem orderOf_mem {ops : Array Oper} {x : DE} (h : x ∈ orderOf ops.toList) : ops[x.1]? = some x.2.2.2 ∧ (befores ops.toList [])[x.1]? = some x.2.1 := by
  have := stages_mem h
  obtain ⟨_, h2, h3⟩ := entsOf_mem this
  exact ⟨by simpa using h2, by simpa using h3⟩

/-! ### the names -/
structure NamesOk (ops : Array Oper) (bs : List Nat) : Prop where
  names : ∀ (i b : Nat) (o : Oper), ops[i]? = some o → bs[i]? = some b → ∀ (j b' : Nat) (o' : Oper), ops[j]? = some o' → bs[j]? = some b' → hasTmp o'.dst (namesOf ops.toList o) = true → b.testBit j = true ∨ (isBar o' = true ∧ b'.testBit i = true)
  dsts : ∀ (i : Nat) (o : Oper), ops[i]? = some o → ∀ (j b' : Nat) (o' : Oper), ops[j]? = some o' → bs[j]? = some b' → i < j → sameDst o.dst o'.dst = true → b'.testBit i = true ∧ (isBar o = true ∨ isBar o' = true)

theorem namesOk_spec {i b : Nat} {names : List Nat} : ∀ {os : List Oper} {bs : List Nat} {j : Nat}, namesOk i b names j os bs = true → ∀ (k b' : Nat) (o' : Oper), os[k]? = some o' → bs[k]? = some b' → hasTmp o'.dst names = true → b.testBit (j + k) = true ∨ (isBar o' = true ∧ b'.testBit i = true)
  | [], _, _, _, k, b', o', h1, _, _ => by simp at h1
  | o :: os, [], _, h, k, b', o', h1, h2, _ => by simp at h2
  | o :: os, b0 :: bs, j, h, k, b', o', h1, h2, h3 => by
    simp only [namesOk] at h
    cases k with
    | zero =>
      simp at h1 h2
      subst h1 h2
      simp only [h3] at h
      cases hb : b.testBit j with
      | true => exact .inl (by simp)
      | false =>
        simp only [hb] at h
        split at h
        · rename_i e1 e2; exact .inr ⟨e1, e2⟩
        · cases h
    | succ k =>
      have hrest : namesOk i b names (Nat.succ j) os bs = true := by
        split at h
        · split at h
          · exact h
          · cases h
        · exact h
      have := namesOk_spec hrest k b' o' (by simpa using h1) (by simpa using h2) h3
      rw [show j + (k + 1) = Nat.succ j + k by omega]
      exact this
theorem newName_spec {i : Nat} {bar : Bool} {d : Option Tmp} : ∀ {os : List Oper} {bs : List Nat}, newName i bar d os bs = true → ∀ (k b' : Nat) (o' : Oper), os[k]? = some o' → bs[k]? = some b' → sameDst d o'.dst = true → b'.testBit i = true ∧ (bar = true ∨ isBar o' = true)
  | [], _, _, k, b', o', h1, _, _ => by simp at h1
  | o :: os, [], _, k, b', o', _, h2, _ => by simp at h2
  | o :: os, b0 :: bs, h, k, b', o', h1, h2, h3 => by
    simp only [newName] at h
    cases k with
    | zero =>
      simp at h1 h2
      subst h1 h2
      simp only [h3] at h
      split at h
      · rename_i e1 e2; exact ⟨e1, .inr e2⟩
      · rename_i e1; exact ⟨e1, .inl rfl⟩
      · cases h
    | succ k =>
      have hrest : newName i bar d os bs = true := by
        split at h
        · split at h
          · exact h
          · exact h
          · cases h
        · exact h
      exact newName_spec hrest k b' o' (by simpa using h1) (by simpa using h2) h3
theorem namesAll_spec {ops : List Oper} {bs : List Nat} : ∀ {os : List Oper} {bs' : List Nat} {i : Nat}, namesAll ops bs i os bs' = true → ∀ (k b : Nat) (o : Oper), os[k]? = some o → bs'[k]? = some b →
    namesOk (i + k) b (namesOf ops o) 0 ops bs = true ∧ newName (i + k) (isBar o) o.dst (os.drop (k + 1)) (bs'.drop (k + 1)) = true
  | [], _, _, _, k, b, o, h1, _ => by simp at h1
  | o :: os, [], _, h, k, b', o', h1, h2 => by simp at h2
  | o :: os, b0 :: bs', i, h, k, b, o', h1, h2 => by
    simp only [namesAll] at h
    split at h
    · rename_i e1 e2
      cases k with
      | zero =>
        simp at h1 h2
        subst h1 h2
        exact ⟨e1, e2⟩
      | succ k =>
        have := namesAll_spec h k b o' (by simpa using h1) (by simpa using h2)
        rw [show i + (k + 1) = Nat.succ i + k by omega]
        exact this
    · cases h
theorem namesAll_ok {ops : Array Oper} {bs : List Nat} (hlen : bs.length = ops.size) (h : namesAll ops.toList bs 0 ops.toList bs = true) : NamesOk ops bs := by
  refine ⟨fun i b o ho hb j b' o' ho' hb' hh => ?_, fun i o ho j b' o' ho' hb' hij hs => ?_⟩
  · obtain ⟨h1, _⟩ := namesAll_spec h i b o (by simpa using ho) hb
    have := namesOk_spec h1 j b' o' (by simpa using ho') hb' hh
    simpa using this
  · have hi : i < bs.length := by rw [hlen]; exact (Array.getElem?_eq_some_iff.1 ho).1
    obtain ⟨_, h2⟩ := namesAll_spec h i bs[i] o (by simpa using ho) (by simp [hi])
    have := newName_spec h2 (j - (i + 1)) b' o' (by rw [List.getElem?_drop, show i + 1 + (j - (i + 1)) = j by omega]; simpa using ho') (by rw [List.getElem?_drop, show i + 1 + (j - (i + 1)) = j by omega]; exact hb') hs
    simpa using this
end Go.Ai
