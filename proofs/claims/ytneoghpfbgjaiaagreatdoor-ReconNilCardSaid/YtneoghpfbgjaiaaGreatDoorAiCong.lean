/- A part of an evaluator over an abstract heap and of the proof that it is sound for the model. CONDITIONS: those that each theorem names. -/
import Derived.Test.YtneoghpfbgjaiaaGreatDoorAiAct6
namespace Go.Ai
open Go
variable {P : Program} {fr fr' : Fr}

def Agree (fr fr' : Fr) (xs : Array Operand) : Prop := ∀ x ∈ xs, fr.ev x = fr'.ev x

theorem evs_cong : ∀ {xs : List Operand}, (∀ x ∈ xs, fr.ev x = fr'.ev x) → evs fr xs = evs fr' xs
  | [], _ => rfl
  | x :: xs, h => by simp only [evs, h x List.mem_cons_self, evs_cong (xs := xs) fun y hy => h y (List.mem_cons_of_mem _ hy)]
theorem evO_cong {o : Option Operand} (h : ∀ x ∈ o, fr.ev x = fr'.ev x) : evO fr o = evO fr' o := by
  cases o with
  | none => rfl
  | some x => simp only [evO, h x rfl]
theorem evParts_cong : ∀ {ps : List (Nat × Operand)}, (∀ p ∈ ps, fr.ev p.2 = fr'.ev p.2) → evParts fr ps = evParts fr' ps
  | [], _ => rfl
  | (i, x) :: ps, h => by simp only [evParts, h _ List.mem_cons_self, evParts_cong (ps := ps) fun y hy => h y (List.mem_cons_of_mem _ hy)]

theorem pure_cong {op : Op} (h : ∀ x ∈ op.operands, fr.ev x = fr'.ev x) : pureOp P fr op = pureOp P fr' op := by
  cases op <;> simp only [Op.operands] at h <;> simp only [pureOp]
  case build t ps => simp only [pBuild, evParts_cong (fr := fr) (fr' := fr') (ps := ps.toList) (fun p hp => h p.2 (by simp; exact ⟨p.1, by simpa using hp⟩))]
  case makeFunc f first captured =>
    rw [evs_cong (fr := fr) (fr' := fr') (xs := first.toList) fun x hx => h x (by simp at hx ⊢; exact .inl hx), evs_cong (fr := fr) (fr' := fr') (xs := captured.toList) fun x hx => h x (by simp at hx ⊢; exact .inr hx)]
  case slice t x lo hi mx =>
    rw [h x (by simp), evO_cong (fr := fr) (fr' := fr') (o := lo) fun y hy => h y (by simp at hy ⊢; simp [hy]), evO_cong (fr := fr) (fr' := fr') (o := hi) fun y hy => h y (by simp at hy ⊢; simp [hy]), evO_cong (fr := fr) (fr' := fr') (o := mx) fun y hy => h y (by simp at hy ⊢; simp [hy])]
  all_goals (first | rfl | (simp_all [pPick]; done))
theorem callargs_cong {c : Call} (h : ∀ x ∈ c.operands, fr.ev x = fr'.ev x) : (∀ x ∈ c.args.toList, fr.ev x = fr'.ev x) ∧ (∀ f, c.callee = .value f → fr.ev f = fr'.ev f) ∧ (∀ f m, c.callee = .invoke f m → fr.ev f = fr'.ev f) := by
  refine ⟨fun x hx => h x ?_, fun f hf => h f ?_, fun f m hf => h f ?_⟩
  · simp only [Call.operands]; simp at hx ⊢; exact .inr hx
  · simp [Call.operands, hf]
  · simp [Call.operands, hf]

theorem read_cong {G : Glob} {h0 : Heap} {op : Op} (h : ∀ x ∈ op.operands, fr.ev x = fr'.ev x) : readOp P G fr h0 op = readOp P G fr' h0 op := by
  cases op <;> simp only [Op.operands] at h <;> simp only [readOp]
  case call c =>
    obtain ⟨h1, _, _⟩ := callargs_cong h
    unfold rCall
    split
    · cases ha : c.args.toList[0]? with
      | none => cases c.argTypes.toList[0]? <;> rfl
      | some x =>
        have := h1 x (List.mem_of_getElem? ha)
        cases c.argTypes.toList[0]? <;> simp only [rLen, this]
    · rfl
  all_goals (first | rfl | (simp_all; done))
theorem alloc_cong {key : Nat} {op : Op} (h : ∀ x ∈ op.operands, fr.ev x = fr'.ev x) : allocOp P fr key op = allocOp P fr' key op := by
  cases op <;> simp only [Op.operands] at h <;> simp only [allocOp]
  case buildSlice t len ps => simp only [evParts_cong (fr := fr) (fr' := fr') (ps := ps.toList) (fun p hp => h p.2 (by simp; exact ⟨p.1, by simpa using hp⟩))]
  case makeMap t r => cases r <;> rfl
  all_goals (first | rfl | (simp_all; done))

theorem target_cong {c : Call} (h : ∀ x ∈ c.operands, fr.ev x = fr'.ev x) : target P fr c = target P fr' c := by
  obtain ⟨h1, h2, h3⟩ := callargs_cong h
  unfold target
  split
  · rename_i f hf; rw [h2 f hf, evs_cong h1]
  · rename_i f m hf; rw [h3 f m hf, evs_cong h1]
  · rfl
theorem builtin_cong {key : Nat} {s : St} {c : Call} {b : Builtin} (h : ∀ x ∈ c.operands, fr.ev x = fr'.ev x) : aBuiltin P fr key s c b = aBuiltin P fr' key s c b := by
  obtain ⟨h1, _, _⟩ := callargs_cong h
  unfold aBuiltin
  cases b <;> simp only
  · unfold aApp; split
    · rename_i x y _ hxy; rw [h1 x (by simp [hxy]), h1 y (by simp [hxy])]
    · rfl
  · unfold aCl; split
    · rename_i x _ hxy; rw [h1 x (by simp [hxy])]
    · rfl
  · unfold aCp; split
    · rename_i x y _ hxy; rw [h1 x (by simp [hxy]), h1 y (by simp [hxy])]
    · rfl
  · unfold aDl; split
    · rename_i x y _ hxy; rw [h1 x (by simp [hxy]), h1 y (by simp [hxy])]
    · rfl
  · rw [evs_cong h1]
  · rw [evs_cong h1]
theorem act_cong {s : St} {op : Op} (h : ∀ x ∈ op.operands, fr.ev x = fr'.ev x) : actOp P fr s op = actOp P fr' s op := by
  cases op <;> simp only [Op.operands] at h <;> simp only [actOp]
  case next it b => cases b <;> simp_all
  all_goals (first | rfl | (simp_all; done))
theorem heavy_cong {call : CallF} {key : Nat} {s : St} {op : Op} (h : ∀ x ∈ op.operands, fr.ev x = fr'.ev x) : heavy P call fr key s op = heavy P call fr' key s op := by
  unfold heavy
  split
  · rename_i c
    simp only [Op.operands] at h
    unfold heavyCall
    split
    · exact builtin_cong h
    · rw [target_cong h]
  · exact act_cong h
end Go.Ai
