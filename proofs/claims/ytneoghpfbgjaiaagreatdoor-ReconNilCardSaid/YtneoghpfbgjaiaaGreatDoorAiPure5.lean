/- A part of an evaluator over an abstract heap and of the proof that it is sound for the model. CONDITIONS: those that each theorem names. -/
import Derived.Test.YtneoghpfbgjaiaaGreatDoorAiPure4
namespace Go.Ai
open Go
variable {P : Program} {ρ : Map}

/-- A bound, as the run sees it. -/
def ROB (o : Option Value) (dflt n : Nat) : Prop := (o = none ∧ n = dflt) ∨ ∃ k, o = some (.int k (n : Int))
/-- The bounds' values. -/
def ROV (ρ : Map) : Option AV → Option Value → Prop
  | none, v => v = none
  | some a, v => ∃ u, RV ρ a u ∧ v = some u
theorem bound_rob {a : Option AV} {o : Option Value} {d n : Nat} (h : boundA a d = some n) (r : ROV ρ a o) : ROB o d n := by
  cases a with
  | none => simp only [boundA, Option.some.injEq] at h; exact .inl ⟨r, h.symm⟩
  | some a =>
    obtain ⟨u, ru, e⟩ := r
    obtain ⟨k, hk⟩ := natOf_spec h ru
    exact .inr ⟨k, by rw [e, hk]⟩

theorem rsb (k : IntKind) {n y : Nat} (h : n ≤ y) (code : BoundsCode) (w : World) : (Instr.sliceBound (.int k n) y code).run P w = .ok n w := by
  rw [run_sliceBound _ k n y code (by omega) (by omega)]
  simp

theorem bounds_sound {len lim cap : Nat} {lo hi mx : Option AV} {l h : Nat} {om : Option Nat} (hb : boundsA len lim lo hi mx = some (l, h, om)) (hc : lim ≤ cap) (hl : len ≤ lim)
    {lo' hi' mx' : Option Value} (r1 : ROV ρ lo lo') (r2 : ROV ρ hi hi') (r3 : ROV ρ mx mx') (isSlice : Bool) :
    (∀ w, (Instr.sliceBounds isSlice len cap lo' hi' mx').run P w = .ok (l, h, om.getD cap) w) ∧ l ≤ h ∧ h ≤ om.getD cap ∧ h ≤ lim ∧ om.getD cap ≤ cap ∧ (mx = none ↔ om = none) ∧ (∀ m, om = some m → m ≤ lim) := by
  unfold boundsA at hb
  split at hb
  · simp only [ROV] at r3; subst r3
    split at hb
    · rename_i l0 h0 hlo hhi
      split at hb
      · rename_i hle
        cases hb
        simp only [Bool.and_eq_true, Nat.ble_eq] at hle
        have b1 := bound_rob hlo r1
        have b2 := bound_rob hhi r2
        refine ⟨fun w => ?_, hle.1, by simp; omega, hle.2, by simp, by simp, by simp⟩
        have hhc : h ≤ cap := by omega
        rcases b1 with ⟨rfl, rfl⟩ | ⟨k1, rfl⟩ <;> rcases b2 with ⟨rfl, rfl⟩ | ⟨k2, rfl⟩ <;>
          simp [Instr.sliceBounds, rsb _ hhc, rsb _ hle.1]
      · cases hb
    · cases hb
  · rename_i m0
    split at hb
    · rename_i hv m hm
      obtain ⟨um, rm, e3⟩ := r3
      obtain ⟨uh, rh, e2⟩ := r2
      split at hb
      · rename_i l0 h0 hlo hhi
        split at hb
        · rename_i hle
          cases hb
          simp only [Bool.and_eq_true, Nat.ble_eq] at hle
          have b1 := bound_rob hlo r1
          obtain ⟨km, hkm⟩ := natOf_spec hm rm
          obtain ⟨kh, hkh⟩ := natOf_spec hhi rh
          subst e3 e2 hkm hkh
          refine ⟨fun w => ?_, hle.1.1, by simpa using hle.1.2, by omega, by simp; omega, by simp, by simpa using hle.2⟩
          have hmc : m ≤ cap := by omega
          rcases b1 with ⟨rfl, rfl⟩ | ⟨k1, rfl⟩ <;>
            simp [Instr.sliceBounds, rsb _ hmc, rsb _ hle.1.2, rsb _ hle.1.1]
        · cases hb
      · cases hb
    · cases hb

section
variable {fr : Fr} {a : Act} {v : AV}
theorem evO_rov (r : RF ρ fr a) {x : Option Operand} {o : Option AV} (h : evO fr x = some o) : ROV ρ o (x.map a.eval) := by
  cases x with
  | none => simp only [evO, Option.some.injEq] at h; subst h; rfl
  | some x =>
    simp only [evO] at h
    split at h
    · rename_i u hu
      cases h
      exact ⟨_, r.ev hu, rfl⟩
    · cases h

theorem extract_str (s : List UInt8) (l h : Nat) : (ByteArray.mk s.toArray).extract l h = ⟨((s.drop l).take (h - l)).toArray⟩ := by
  apply ByteArray.ext
  simp [ByteArray.data_extract]

theorem run_sl {t e : TypeId} {es len cap l h m : Nat} {ad : Addr} {lo hi mx : Option Value} (hd : P.underlying t = some (.slice e)) (hes : sizeT P e = some es) {w : World}
    (hb : (Instr.sliceBounds true len cap lo hi mx).run P w = .ok (l, h, m) w) :
    (Instr.sliceAt t (.slice (some ad) len cap) lo hi mx).run P w = .ok (.slice (if m = l then some ad else some (ad.add (l * es))) (h - l) (m - l)) w := by
  simp only [Instr.sliceAt, Sem.run_bind, run_und hd, Result.andThen_ok, Instr.slice, hb, run_sizeT hes, Sem.run_pure]
  split <;> simp_all
theorem run_sla {t e : TypeId} {n es l h m : Nat} {ad : Addr} {lo hi mx : Option Value} (hd : P.underlying t = some (.array n e)) (hes : sizeT P e = some es) {w : World}
    (hb : (Instr.sliceBounds false n n lo hi mx).run P w = .ok (l, h, m) w) :
    (Instr.sliceAt t (.pointer (some ad)) lo hi mx).run P w = .ok (.slice (if m = l then some ad else some (ad.add (l * es))) (h - l) (m - l)) w := by
  simp only [Instr.sliceAt, Sem.run_bind, run_und hd, Result.andThen_ok, Instr.sureAddr, hb, run_sizeT hes, Sem.run_pure]
  split <;> simp_all
/-- the address behind a slicing -/
def slOff (o l es m : Nat) : Nat := if m = l then o else o + l * es
theorem slAddr (b o l es m : Nat) : (if m = l then some (Addr.mk b o none) else some ((Addr.mk b o none).add (l * es))) = some ⟨b, slOff o l es m, none⟩ := by
  unfold slOff
  split
  · rfl
  · rw [add_none]

theorem s_slice {t : TypeId} {x : Operand} {lo hi mx : Option Operand} (r : RF ρ fr a) (h : pSlice P t (fr.ev x) (evO fr lo) (evO fr hi) (evO fr mx) = some v) :
    YV P ρ (do pure (.value (← Instr.sliceAt t (a.eval x) (lo.map a.eval) (hi.map a.eval) (mx.map a.eval)))) v := by
  unfold pSlice at h
  split at h
  · rename_i u0 l0 h0 m0 hv hl hh hm
    have rx := r.ev hv
    have r1 := evO_rov r hl
    have r2 := evO_rov r hh
    have r3 := evO_rov r hm
    unfold sliceA sliceD at h
    split at h
    · rename_i s hd
      simp only [RV] at rx
      unfold sliceStr at h
      split at h
      · rename_i l hi0 hb
        cases h
        obtain ⟨hr, _, _, _, _, hmx, _⟩ := bounds_sound (P := P) (cap := s.length) hb (Nat.le_refl _) (Nat.le_refl _) r1 r2 r3 false
        have hm0 : m0 = none := hmx.2 rfl
        subst hm0
        have hmx' : mx.map a.eval = none := r3
        refine YV.of (u := .string ⟨((s.drop l).take (hi0 - l)).toArray⟩) (fun w => ?_) rfl
        have hsz : (ByteArray.mk s.toArray).size = s.length := by simp [ByteArray.size]
        simp only [Instr.sliceAt, Sem.run_bind, run_und hd, Result.andThen_ok, rx, Instr.slice, hmx', Option.isSome_none, Bool.false_eq_true, if_false, hsz]
        rw [hmx'] at hr
        rw [hr]
        simp [extract_str]
      · cases h
    · rename_i e hd
      simp only [RV] at rx
      unfold sliceNil at h
      split at h
      · rename_i es q hes hb
        cases h
        obtain ⟨l, hi0, om⟩ := q
        obtain ⟨hr, h1, h2, h3, h4, _, h5⟩ := bounds_sound (P := P) (cap := 0) hb (Nat.le_refl _) (Nat.le_refl _) r1 r2 r3 true
        refine YV.of (u := .slice none 0 0) (fun w => ?_) rfl
        have hm0' : om.getD 0 = 0 := by omega
        simp only [Instr.sliceAt, Sem.run_bind, run_und hd, Result.andThen_ok, rx, Instr.slice, hr]
        rw [run_sizeT hes]
        simp [hm0']
        omega
      · cases h
    · rename_i e id off eo len c hd
      obtain ⟨en, hen, o', hle, ho', hx⟩ := rx
      unfold sliceShut at h
      split at h
      · rename_i es l h0 hes hb
        cases h
        obtain ⟨hr, h1, h2, h3, h4, _, h5⟩ := bounds_sound (P := P) (cap := c) hb (Nat.le_refl _) hle r1 r2 r3 true
        simp only [Option.getD_none] at hr h2
        refine YV.of (u := .slice (some ⟨en.b, slOff (en.o + o') l es c, none⟩) (h0 - l) (c - l)) (fun w => ?_) ?_
        · rw [hx, run_sl hd hes (hr w), slAddr]
        · refine ⟨en, hen, slOff o' l es c, by show h0 - l ≤ c - l; omega, fun hp => ?_, ?_⟩
          · have hp' : 0 < c - l := hp
            rw [slOff, if_neg (by omega), ho' (by omega)]; rfl
          · congr 3; unfold slOff; split <;> omega
      · rename_i es l h0 m hes hb
        cases h
        obtain ⟨hr, h1, h2, h3, h4, _, h5⟩ := bounds_sound (P := P) (cap := c) hb (Nat.le_refl _) hle r1 r2 r3 true
        simp only [Option.getD_some] at hr h2 h4
        refine YV.of (u := .slice (some ⟨en.b, slOff (en.o + o') l es m, none⟩) (h0 - l) (m - l)) (fun w => ?_) ?_
        · rw [hx, run_sl hd hes (hr w), slAddr]
        · refine ⟨en, hen, slOff o' l es m, by show h0 - l ≤ m - l; omega, fun hp => ?_, ?_⟩
          · have hp' : 0 < m - l := hp
            rw [slOff, if_neg (by omega), ho' (by omega)]; rfl
          · congr 3; unfold slOff; split <;> omega
      · cases h
    · rename_i e id off eo len hd
      obtain ⟨en, hen, o', hle, ho', hx⟩ := rx
      unfold sliceOpen at h
      split at h
      · rename_i es l h0 hes hb
        cases h
        obtain ⟨hr, h1, h2, h3, h4, _, h5⟩ := bounds_sound (P := P) (cap := en.k - eo) hb (by omega) (Nat.le_refl _) r1 r2 r3 true
        simp only [Option.getD_none] at hr h2
        refine YV.of (u := .slice (some ⟨en.b, slOff (en.o + o') l es (en.k - eo), none⟩) (h0 - l) (en.k - eo - l)) (fun w => ?_) ?_
        · rw [hx, run_sl hd hes (hr w), slAddr]
        · refine ⟨en, hen, slOff o' l es (en.k - eo), by show eo + l + (h0 - l) ≤ en.k; omega, fun hp => ?_, ?_⟩
          · have hp' : eo + l < en.k := hp
            rw [slOff, if_neg (by omega), ho' (by omega)]; rfl
          · have e1 : en.k - eo - l = en.k - (eo + l) := by omega
            show Value.slice _ (h0 - l) (en.k - eo - l) = Value.slice _ (h0 - l) (en.k - (eo + l))
            rw [e1]
            congr 3; unfold slOff; split <;> omega
      · rename_i es l h0 m hes hb
        cases h
        obtain ⟨hr, h1, h2, h3, h4, _, h5⟩ := bounds_sound (P := P) (cap := en.k - eo) hb (by omega) (Nat.le_refl _) r1 r2 r3 true
        simp only [Option.getD_some] at hr h2 h4
        refine YV.of (u := .slice (some ⟨en.b, slOff (en.o + o') l es m, none⟩) (h0 - l) (m - l)) (fun w => ?_) ?_
        · rw [hx, run_sl hd hes (hr w), slAddr]
        · refine ⟨en, hen, slOff o' l es m, by show h0 - l ≤ m - l; omega, fun hp => ?_, ?_⟩
          · have hp' : 0 < m - l := hp
            rw [slOff, if_neg (by omega), ho' (by omega)]; rfl
          · congr 3; unfold slOff; split <;> omega
      · cases h
    · rename_i n e id off hd
      obtain ⟨en, hen, hx⟩ := rx
      unfold sliceShut at h
      split at h
      · rename_i es l h0 hes hb
        cases h
        obtain ⟨hr, h1, h2, h3, h4, _, h5⟩ := bounds_sound (P := P) (cap := n) hb (Nat.le_refl _) (Nat.le_refl _) r1 r2 r3 false
        simp only [Option.getD_none] at hr h2
        refine YV.of (u := .slice (some ⟨en.b, slOff (en.o + off) l es n, none⟩) (h0 - l) (n - l)) (fun w => ?_) ?_
        · rw [hx, run_sla hd hes (hr w), slAddr]
        · refine ⟨en, hen, slOff off l es n, by show h0 - l ≤ n - l; omega, fun hp => ?_, ?_⟩
          · have hp' : 0 < n - l := hp
            rw [slOff, if_neg (by omega)]; rfl
          · congr 3; unfold slOff; split <;> omega
      · rename_i es l h0 m hes hb
        cases h
        obtain ⟨hr, h1, h2, h3, h4, _, h5⟩ := bounds_sound (P := P) (cap := n) hb (Nat.le_refl _) (Nat.le_refl _) r1 r2 r3 false
        simp only [Option.getD_some] at hr h2 h4
        refine YV.of (u := .slice (some ⟨en.b, slOff (en.o + off) l es m, none⟩) (h0 - l) (m - l)) (fun w => ?_) ?_
        · rw [hx, run_sla hd hes (hr w), slAddr]
        · refine ⟨en, hen, slOff off l es m, by show h0 - l ≤ m - l; omega, fun hp => ?_, ?_⟩
          · have hp' : 0 < m - l := hp
            rw [slOff, if_neg (by omega)]; rfl
          · congr 3; unfold slOff; split <;> omega
      · cases h
    · cases h
  · cases h

theorem s_un {op : UnOp} {x : Operand} (r : RF ρ fr a) (h : pUn P op (fr.ev x) = some v) : YV P ρ (do pure (.value (← Op.unary op (a.eval x)))) v := by
  unfold pUn at h
  split at h
  · rename_i u hu
    unfold pUn2 at h
    split at h
    · rename_i y hy
      split at h
      · rename_i z hz
        have e := toS_rv hy (r.ev hu)
        refine YV.of (u := z) (fun w => ?_) (ofS_rv ρ h)
        rw [e]; exact run_runP hz w
      · cases h
    · cases h
  · cases h

/-- THE OPERATIONS THAT ONLY LOOK AT THEIR OPERANDS. -/
theorem pure_sound {o : Oper} (r : RF ρ fr a) (h : pureOp P fr o.op = some v) : YV P ρ (execOp a.eval o) v := by
  obtain ⟨dst, op, ty, pos, after, gd⟩ := o
  simp only at h
  unfold pureOp at h
  split at h
  · exact s_move r h
  · exact s_move r h
  · exact s_pick r h
  · exact s_build r h
  · exact s_nil r h
  · exact s_bin r h
  · exact s_un r h
  · exact s_mkI r h
  · exact s_mkF r h
  · exact s_slice r h
  · exact s_fieldAddr r h
  · exact s_field r h
  · exact s_indexAddr r h
  · exact s_index r h
  · exact s_typeAssert r h
  · exact s_extract r h
  · cases h
end
end Go.Ai
