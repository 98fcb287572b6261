/- A part of an evaluator over an abstract heap and of the proof that it is sound for the model. CONDITIONS: those that each theorem names. -/
import Derived.Test.YtneoghpfbgjaiaaGreatDoorAiDraw7
namespace Go.Ai
open Go
variable {P : Program} {G : Glob} {base : Nat}

def lst (listed : Array Bool) (i : Nat) : Bool := listed.getD i false
theorem lst_set {listed : Array Bool} {i : Nat} (h : i < listed.size) : lst (listed.setIfInBounds i true) = plus (lst listed) i := by
  funext k
  by_cases e : i = k
  · subst e; simp [lst, plus, h]
  · have : ¬ k = i := fun h => e h.symm
    simp only [lst, plus, decide_eq_false this, Bool.or_false]
    exact getD_set_ne false e

theorem all_listed {ops : Array Oper} {bs : List Nat} (hB : Bef ops bs) {L : Nat → Bool} (hr : ∀ i o, ops[i]? = some o → (∀ e ∈ o.after.toList, Region.binds .any e = true → L e.on = true) → L i = true) :
    ∀ {l : List DE} {done hv : Nat}, (∀ x ∈ l, ops[x.1]? = some x.2.2.2 ∧ bs[x.1]? = some x.2.1) → orderOk (Nat.sub (2 ^ ops.toList.length) 1) l done hv = true → (∀ j, done.testBit j = true → L j = true) → ∀ j, j < ops.size → L j = true
  | [], done, hv, _, h, hd, j, hj => by
    rcases orderOk_mem h j (by simpa using hj) with e | ⟨x, hx, _⟩
    · exact hd j e
    · cases hx
  | (i, b, st, o) :: r, done, hv, hent, h, hd, j, hj => by
    obtain ⟨hdi, hbd, hv', hok, _⟩ := orderOk_head h
    obtain ⟨ho, hb⟩ := hent _ List.mem_cons_self
    simp only at ho hb
    have hLi : L i = true := hr i o ho fun e he hbi => hd _ (hbd _ ((hB.spec i b o ho hb e.on).2 ⟨e, he, hbi, .inl rfl⟩))
    refine all_listed hB hr (fun x hx => hent x (List.mem_cons_of_mem _ hx)) hok (fun k hk => ?_) j hj
    rw [lor_spec, Bool.or_eq_true, decide_eq_true_eq] at hk
    rcases hk with h | h
    · exact hd k h
    · rw [← h]; exact hLi

theorem readOf_nil {ops : Array Oper} {listed : Array Bool} (hsz : listed.size = ops.size) (h : Region.ready .any ops listed = []) (i : Nat) (o : Oper) (ho : ops[i]? = some o) (hed : ∀ e ∈ o.after.toList, Region.binds .any e = true → lst listed e.on = true) : lst listed i = true := by
  cases hl : lst listed i with
  | true => rfl
  | false =>
    have hi : i < listed.size := by rw [hsz]; exact (Array.getElem?_eq_some_iff.1 ho).1
    have : i ∈ Region.ready .any ops listed := mem_ready.2 ⟨by simpa [lst, hi] using hl, o, ho, fun e he hb => hed e (by simpa using he) hb⟩
    rw [h] at this; cases this

section
variable {ops : Array Oper} {bs : List Nat} {fno : Nat} {rc0 : Rc} {ρ0 : Map} {s0 : St} {w0 : World}

/-- at the end -/
theorem Inv.fin {call : CallF} {rest : List DE} {done hv : Nat} {fr : Fr} {s : St} {z : Seen} {L : Nat → Bool} {frL : Fr} {ρ : Map} {a : Act} {w : World} {outs OUTS : List (Ex × Fr × St)} {cs0 cs : List Frame} (I : Inv P G base ops bs fno rc0 ρ0 s0 w0 rest done hv fr s z L frL ρ a w)
    (h : drawOps P G call ops ops.toList.length rest done fr s z = some outs) (hsub : ∀ x ∈ outs, x ∈ OUTS) (hcs : RCx ρ0 rc0 cs0 cs) (hall : ∀ j, j < ops.size → L j = true) : Post G base cs0 fno rc0 ρ0 s0 w0 OUTS .normal a cs w := by
  cases rest with
  | cons x r =>
    obtain ⟨i, b, st, o⟩ := x
    obtain ⟨hdi, _⟩ := orderOk_head I.ok
    obtain ⟨ho, _⟩ := I.ent _ List.mem_cons_self
    simp only at ho
    have := I.ld i (hall i (Array.getElem?_eq_some_iff.1 ho).1)
    rw [hdi] at this; cases this
  | nil =>
    simp only [drawOps, Option.some.injEq] at h
    subst h
    have hdone : ∀ j, done.testBit j = true → L j = true := fun j hj => hall j (I.dl j hj)
    have hA : s.withH (addAll s.h z.made) = ⟨addP L s.h z.made, s.fc⟩ := by
      rw [St.withH_eq, addAll_eq]
      congr 1
      exact addP_congr fun j k blk hm => (hdone j (I.mad.1 j k blk hm).2).symm
    have rf : RF ρ fr a := ⟨by rw [I.rf.size, I.fe.2.2.1], fun t => by rw [← I.ag t fun j oj hoj hd hdj => hdone j hdj]; exact I.rf.tmp t⟩
    have rs : RS G base ops.toList.length ρ fr ⟨addP L s.h z.made, s.fc⟩ a w := ⟨rf, I.rm, fun k h1 h2 => by
      cases hρ : ρ k with
      | none => rfl
      | some x =>
        obtain ⟨i, h3, h4⟩ := I.fresh k (by omega) h2 (by rw [hρ]; simp)
        have := I.dl i (I.ld i h3)
        rw [key_eq] at h4
        simp only [Array.length_toList] at h1
        omega, I.fn, I.df⟩
    obtain ⟨h1, h2, h3⟩ := bump_rs rs
    rw [hA] at hsub
    exact ⟨.normal, fr.bump ops.toList.length, _, ρ, hsub _ (List.mem_singleton.2 rfl), rfl, h1, I.ad, h2.trans I.fno, by rw [h3, I.nrc]; exact hcs.mono I.ad.st.mono, fun b hb => by rw [h3, I.nrc]; exact hb, fun h => by rw [h3, I.nrc]; exact h⟩

theorem any_sound {call : CallF} (HC : CallOK P G base call) (hN : NamesOk ops bs) (hB : Bef ops bs) {order : List DE} (hent : ∀ x ∈ order, ops[x.1]? = some x.2.2.2 ∧ bs[x.1]? = some x.2.1) (hord : orderOk (Nat.sub (2 ^ ops.toList.length) 1) order 0 0 = true)
    {cs0 cs : List Frame} {OUTS : List (Ex × Fr × St)} (hcs : RCx ρ0 rc0 cs0 cs) : ∀ (fuel : Nat) (listed : Array Bool) (U : List Nat) (rest : List DE) (done hv : Nat) (fr : Fr) (s : St) (z : Seen) (frL : Fr) (ρ : Map) (a : Act) (w : World) (outs : List (Ex × Fr × St)),
      listed.size = ops.size → U.length ≤ fuel → (∀ i, i < ops.size → lst listed i = false → i ∈ U) → Inv P G base ops bs fno rc0 ρ0 s0 w0 rest done hv fr s z (lst listed) frL ρ a w → drawOps P G call ops ops.toList.length rest done fr s z = some outs → (∀ x ∈ outs, x ∈ OUTS) →
      wpAny P .any ops (fun e a' w' => Post G base cs0 fno rc0 ρ0 s0 w0 OUTS e a' cs w') fuel listed a w := by
  intro fuel
  induction fuel with
  | zero =>
    intro listed U rest done hv fr s z frL ρ a w outs hsz hU hUn I h hsub
    have hall : ∀ j, j < ops.size → lst listed j = true := fun j hj => by
      cases hl : lst listed j with
      | true => rfl
      | false =>
        have := hUn j hj hl
        rw [List.length_eq_zero_iff.1 (Nat.le_zero.1 hU)] at this; cases this
    refine ⟨?_, I.fin h hsub hcs hall⟩
    cases hr : Region.ready .any ops listed with
    | nil => rfl
    | cons x xs =>
      have : x ∈ Region.ready .any ops listed := by rw [hr]; exact List.mem_cons_self
      obtain ⟨h1, o, ho, _⟩ := mem_ready.1 this
      have hx := (Array.getElem?_eq_some_iff.1 ho).1
      have h2 := hall x hx
      have hx' : x < listed.size := by rw [hsz]; exact hx
      simp [lst, hx'] at h1 h2
      rw [h1] at h2; cases h2
  | succ fuel ih =>
    intro listed U rest done hv fr s z frL ρ a w outs hsz hU hUn I h hsub
    refine ⟨fun hr => I.fin h hsub hcs (all_listed hB (readOf_nil hsz hr) hent hord fun j hj => by simp at hj), fun j hj => ?_⟩
    obtain ⟨h1, o, ho, hed⟩ := mem_ready.1 hj
    have hjn := (Array.getElem?_eq_some_iff.1 ho).1
    have hjs : j < listed.size := by rw [hsz]; exact hjn
    have hLj : lst listed j = false := by simpa [lst, hjs] using h1
    have hed' : ∀ e ∈ o.after.toList, Region.binds .any e = true → lst listed e.on = true := fun e he hb => hed e (by simpa using he) hb
    have hjb : j < bs.length := by rw [hB.len]; exact hjn
    have hb : bs[j]? = some bs[j] := by simp [hjb]
    have hUe : (U.erase j).length ≤ fuel := by
      have := hUn j hjn hLj
      rw [List.length_erase_of_mem this]; omega
    have hUn' : ∀ i, i < ops.size → lst (listed.setIfInBounds j true) i = false → i ∈ U.erase j := fun i hi hl => by
      rw [lst_set hjs] at hl
      have hij : i ≠ j := fun e => by rw [plus_iff.2 (.inr e)] at hl; cases hl
      have hl' : lst listed i = false := by
        cases hq : lst listed i with
        | false => rfl
        | true => rw [plus_iff.2 (.inl hq)] at hl; cases hl
      exact (List.mem_erase_of_ne hij).2 (hUn i hi hl')
    obtain ⟨rest', done', hv', fr', z', h', I', hstop⟩ := Inv.advance hN rest done hv fr z h I
    by_cases hdj : done'.testBit j = true
    · exact I'.pending hN hB ho hb hdj hLj hed' fun frL' ρ' a' w' I2 =>
        ih (listed.setIfInBounds j true) (U.erase j) rest' done' hv' fr' s z' frL' ρ' a' w' outs (by simp [hsz]) hUe hUn' (by rw [lst_set hjs]; exact I2) h' hsub
    · -- it is the first of those that are left
      rcases orderOk_mem I'.ok j (by simpa using hjn) with e | ⟨x, hx, hxj⟩
      · exact absurd e hdj
      · cases rest' with
        | nil => cases hx
        | cons y r =>
          obtain ⟨i, b, st, o'⟩ := y
          obtain ⟨hdi, hbd, hv2, hok2, hbar2⟩ := orderOk_head I'.ok
          have hbar : isBar o' = true := hstop
          have hji : j = i := by
            rcases List.mem_cons.1 hx with e | e
            · rw [e] at hxj; exact hxj.symm
            · exfalso
              have h3 := orderOk_hv hok2 x e i (hbar2 hbar)
              obtain ⟨hxo, hxb⟩ := I'.ent x (List.mem_cons_of_mem _ e)
              rw [hxj] at hxo hxb
              rw [ho] at hxo; cases hxo
              have := hB.sub I'.cl j x.2.1 _ ho hxb hed' i h3
              have := I'.ld i this
              rw [hdi] at this; cases this
          subst hji
          obtain ⟨hyo, hyb⟩ := I'.ent _ List.mem_cons_self
          simp only at hyo
          rw [ho] at hyo; cases hyo
          refine I'.sync HC hN hB hbar h' hed' ?_ ?_
          · intro outs' hv3 fr3 s3 frL3 ρ3 a3 w3 hk hs I3
            exact ih (listed.setIfInBounds j true) (U.erase j) r _ hv3 fr3 s3 z' frL3 ρ3 a3 w3 outs' (by simp [hsz]) hUe hUn' (by rw [lst_set hjs]; exact I3) hk (fun x hx => hsub x (hs x hx))
          · intro v s3 u w3 ρ3 hm ru rs hadv
            exact ⟨.pan v, fr', s3, ρ3, hsub _ hm, ⟨u, ru, rfl⟩, rs, hadv, I'.fno, by rw [I'.nrc]; exact hcs.mono hadv.st.mono, fun b hb => by rw [I'.nrc]; exact hb, fun h => by rw [I'.nrc]; exact h⟩

/-- A REGION THAT DRAWS ITS ORDER. -/
theorem drawn_sound {call : CallF} (HC : CallOK P G base call) (hm : P.follows .mixedOrders = true) {id : Nat} {fr : Fr} {s : St} {ρ : Map} {a : Act} {w : World} {outs : List (Ex × Fr × St)} {cs0 cs : List Frame} (h : drawn P G call ops (orderOf ops.toList) fr s = some outs) (hk : fr.lc + ops.size < KK)
    (rs : RS G base 0 ρ fr s a w) (hcs : RCx ρ fr.rc cs0 cs) : (Code.region id ops true).wp P (fun e a' w' => Post G base cs0 fr.fno fr.rc ρ s w outs e a' cs w') a w := by
  unfold drawn at h
  split at h
  · rename_i hok
    unfold drawOk at hok
    split at hok
    · rename_i hord
      have hB := bef_befores ops
      have hN := namesAll_ok hB.len hok
      refine wp_region_any hm ?_
      have hz : ∀ k : Nat, lst (Array.replicate ops.size false) k = false := fun k => by
        by_cases hk : k < ops.size <;> simp [lst, hk]
      have hL : addP (lst (Array.replicate ops.size false)) s.h [] = s.h := rfl
      have rm' : RM G base ρ s w.drew := ⟨⟨rs.rm.rh.blk, rs.rm.rh.inj⟩, rs.rm.rg, rs.rm.bs, rs.rm.hi⟩
      have I : Inv P G base ops (befores ops.toList []) fr.fno fr.rc ρ s w (orderOf ops.toList) 0 0 fr s ⟨[], []⟩ (lst (Array.replicate ops.size false)) fr ρ a w.drew :=
        ⟨fun x hx => orderOf_mem hx, hord, (fun i o h _ => absurd h (by simp [hz])), (fun i h => absurd h (by simp)), (fun i o b h => absurd h (by simp)), (fun i h => absurd h (by simp [hz])), (fun i o h => absurd h (by simp)), ⟨rfl, rfl, rfl, rfl, rfl⟩, rs.rf, fun _ _ => rfl, (fun i o b h => absurd h (by simp)),
          ⟨(fun j k blk h => absurd h (by simp)), (fun j k blk k' blk' h => absurd h (by simp))⟩, by rw [hL]; exact rm', by
            rw [hL]
            exact ⟨Stp.draw rs.rm.rh, Nat.le_refl _, fun _ _ _ => rfl, rs.rm.hi⟩, fun k h1 h2 h3 => absurd (rs.lo k (by omega) h2) h3, rs.fn, rfl, rs.df, hk, rfl⟩
      exact any_sound HC hN hB (fun x hx => orderOf_mem hx) hord hcs ops.size _ (List.range ops.size) _ 0 0 fr s _ fr ρ a _ outs (by simp) (by simp) (fun i hi _ => List.mem_range.2 hi) I h (fun _ h => h)
    · cases hok
  · cases h
end
end Go.Ai
