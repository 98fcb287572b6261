/- A part of an evaluator over an abstract heap and of the proof that it is sound for the model. CONDITIONS: those that each theorem names. -/
import Derived.Test.YtneoghpfbgjaiaaGreatDoorAiAct5
namespace Go.Ai
open Go
variable {P : Program} {ρ : Map} {fr : Fr} {a : Act} {base key : Nat} {s : St} {w : World} {outs : List Out}

theorem heap_drew {w : World} : w.drew.heap = w.heap := rfl

/-- cells of a slice at its start -/
theorem first_old {h : Heap} (rh : RH ρ base (hget h) w) {id off eo len es : Nat} {cap : Option Nat} {x : Value} (rx : RV ρ (.slice id off eo len cap) x) {old : List AV} (hr : readCells h id off (len * es) = some old) :
    ∃ bs cc ou, x = .slice (some bs) len cc ∧ RVs ρ old ou ∧ old.length = len * es ∧ ∀ w' : World, w'.heap = w.heap → (Builtin.firstCells es len x).run P w' = .ok ou.toArray w' := by
  have hs : srcCells h es (.slice id off eo len cap) = some (len, old) := by simp only [srcCells, hr]
  obtain ⟨_, g2, us, g3, g4⟩ := srcCells_sound (P := P) rh hs rx
  obtain ⟨e, o', cc, _, hx, _⟩ := writes_slice rx
  refine ⟨_, cc, us, hx, g3, g2, fun w' hw => ?_⟩
  have := g4 w' hw len (Nat.le_refl _)
  have hl : us.take (len * es) = us := List.take_of_length_le (by rw [← RVs.length g3, g2]; exact Nat.le_refl _)
  rwa [hl] at this

theorem src_all {h : Heap} (rh : RH ρ base (hget h) w) {es n : Nat} {b : AV} {news : List AV} (hs : srcCells h es b = some (n, news)) {x : Value} (rx : RV ρ b x) :
    ∃ nu, RVs ρ news nu ∧ ∀ w' : World, w'.heap = w.heap → (Builtin.firstCells es n x).run P w' = .ok nu.toArray w' := by
  obtain ⟨_, g2, us, g3, g4⟩ := srcCells_sound (P := P) rh hs rx
  refine ⟨us, g3, fun w' hw => ?_⟩
  have := g4 w' hw n (Nat.le_refl _)
  have hl : us.take (n * es) = us := List.take_of_length_le (by rw [← RVs.length g3, g2]; exact Nat.le_refl _)
  rwa [hl] at this

theorem nil_of_zero {news : List AV} {nu : List Value} {es n : Nat} (rn : RVs ρ news nu) (ln : news.length = n * es) (h0 : n = 0) : nu = [] := by
  subst h0
  have := RVs.length rn
  exact List.length_eq_zero_iff.1 (by rw [← this, ln]; simp)

section
variable {dst : Option Tmp} {c : Call} {ty : TypeId} {pos : String} {after : Array Edge} {gd : Option (Nat × Bool)}
variable {t t2 e : TypeId} {es by' n len sCap : Nat} {zu x : Value} {bs : Option Addr}

/-- append where there is room -/
theorem app_room (hT : AppT P t t2 e es by' zu) (hb : c.callee = .builtin .append)
    (a0 : c.argTypes[0]? = some t) (a1 : c.argTypes[1]? = some t2) (b0 : (c.args.map a.eval)[0]? = some (.slice bs len sCap)) (b1 : (c.args.map a.eval)[1]? = some x)
    (hn : ∀ w, (Builtin.lenOf x).run P w = .ok n w) {nu : List Value} (hf : (Builtin.firstCells es n x).run P w = .ok nu.toArray w) (hfit : len + n ≤ sCap) {w' : World}
    (hst : match bs with | some b => (storeCells (b.add (len * es)) nu).run P w = .ok () w' | none => w' = w)
    {ρ' : Map} {s' : St} {v : AV} (hs : Stp ρ base (hget s.h) w ρ' (hget s'.h) w') (hρ : ∀ i, i ≠ key → ρ' i = ρ i) (hfc : s'.fc = s.fc) (rv : RV ρ' v (.slice bs (len + n) sCap)) :
    Some1 P ρ base key s w ((execOp a.eval ⟨dst, .call c, ty, pos, after, gd⟩).run P w) [.val v s'] := by
  have hrun := append_room (ty := ty) hT a0 a1 b0 b1 hn hf hfit hst
  rw [exec_builtin hb]
  refine .one ⟨_, _, hs, hρ, hfc, .inl ⟨.slice bs (len + n) sCap, ?_, rv⟩⟩
  simp only [builtin, Sem.run_bind, hrun, Result.andThen_ok, Sem.run_pure]

theorem a_append (hb : c.callee = .builtin .append) (rh : RH ρ base (hget s.h) w) (hk : ρ key = none) (hbase : base ≤ w.heap.size) (r : RF ρ fr a) (h : aApp P fr key s c.argTypes.toList c.args.toList = some outs) :
    Some1 P ρ base key s w ((execOp a.eval ⟨dst, .call c, ty, pos, after, gd⟩).run P w) outs := by
  unfold aApp at h
  split at h
  · rename_i t t2 x y ht hxy
    have a0 := typ_of ht 0
    have a1 := typ_of ht 1
    have b0 := arg_of (a := a) hxy 0
    have b1 := arg_of (a := a) hxy 1
    simp only [List.getElem?_cons_zero, List.getElem?_cons_succ, Option.map_some] at a0 a1 b0 b1
    unfold aApp2 at h
    split at h
    · rename_i av bv hx hy
      have rx := r.ev hx
      have ry := r.ev hy
      unfold appendA at h
      split at h
      · rename_i e hd
        split at h
        · cases h
        · rename_i es by' d2 hnd hes hby hd2
          split at h
          · rename_i n news hz hsrc
            obtain ⟨z, hz1, hz2, hpos, hbp⟩ := zeroOk_spec hz
            obtain ⟨zu, hzu, rz0, rz⟩ := zero_rv (ρ := ρ) hz1
            have hT : AppT P t t2 e es by' zu := ⟨hd, ⟨d2, hd2, fun k hk => hnd k hk⟩, hes, bytesT_spec hby, hzu, by have := RVs.length rz; simp at this; omega, hpos, hbp⟩
            obtain ⟨hlen, ln, _⟩ := srcCells_sound (P := P) rh hsrc ry
            obtain ⟨nu, rn, hf⟩ := src_all (P := P) rh hsrc ry
            have hnl : 0 < n → 0 < news.length := fun hn => by rw [ln]; exact Nat.mul_pos hn hpos
            split at h
            · -- nil
              simp only [RV] at rx
              rw [rx] at b0
              split at h
              · cases h
                exact app_room hT hb a0 a1 b0 b1 hlen (hf w rfl) (Nat.le_refl _) (w' := w) rfl (Stp.same rh) (fun _ _ => rfl) rfl rfl
              · rename_i hn0
                split at h
                · rename_i h48
                  cases h
                  have hn0' : 0 < n := Nat.pos_of_ne_zero (fun h => hn0 h)
                  have h48 : (2 * (0 + n) + 1024) * by' ≤ 281474976710656 := by simpa using h48
                  have := app_new (dst := dst) (ty := ty) (pos := pos) (after := after) (gd := gd) hT hb hk hbase a0 a1 b0 b1 hlen (olds := []) (ou := []) rfl rn (by simp) ln (run_firstCells_none w.drew es 0 0 0) (hf _ rfl) (by omega) h48 (Stp.same rh)
                  simp only [Nat.zero_add, List.nil_append] at this
                  simp only [St.upd_eq]
                  exact this
                · cases h
            · -- a slice
              rename_i id off eo len cap
              split at h
              · cases h
              · rename_i h48
                have h48 : (2 * (len + n) + 1024) * by' ≤ 281474976710656 := by simpa using h48
                split at h
                · -- nothing more
                  cases h
                  obtain ⟨en, hen, rx⟩ := rx
                  have hnu : nu = [] := nil_of_zero rn ln rfl
                  subst hnu
                  cases cap with
                  | some cc =>
                    obtain ⟨o', h1, h2, h3⟩ := rx
                    rw [h3] at b0
                    exact app_room hT hb a0 a1 b0 b1 hlen (hf w rfl) (by omega) (w' := w) (storeCells_nil _ _) (Stp.same rh) (fun _ _ => rfl) rfl ⟨en, hen, o', h1, h2, rfl⟩
                  | none =>
                    obtain ⟨o', h1, h2, h3⟩ := rx
                    rw [h3] at b0
                    exact app_room hT hb a0 a1 b0 b1 hlen (hf w rfl) (by omega) (w' := w) (storeCells_nil _ _) (Stp.same rh) (fun _ _ => rfl) rfl ⟨en, hen, o', h1, h2, rfl⟩
                · rename_i hn0
                  have hn0' : 0 < n := Nat.pos_of_ne_zero (fun h => hn0 h)
                  split at h
                  · rename_i cs m es' hg
                    split at h
                    · -- open, within what is known
                      rename_i hle
                      split at h
                      · rename_i hbb
                        simp only [Bool.and_eq_true] at hbb
                        have e1 := Nat.eq_of_beq_eq_true hbb.1
                        have e2 := Nat.eq_of_beq_eq_true hbb.2
                        subst e1
                        split at h
                        · rename_i h' hw
                          cases h
                          obtain ⟨en, hen, o', h1, h2, h3⟩ := rx
                          obtain ⟨e', ob, k1, k2, k3, cc, ty', lo, hi, k4, k5, k6, k7, k8, k9⟩ := rh.blk id _ hg (by simp)
                          rw [hen] at k1; cases k1
                          have hle : off + (len + n) * es ≤ m := by simpa using hle
                          have hroom : eo + (len + n) ≤ en.k := by
                            have := Nat.le_trans hle (k7 hpos)
                            rw [e2, ← Nat.add_mul] at this
                            exact Nat.le_of_mul_le_mul_right this hpos
                          have := h2 (by omega)
                          subst this
                          rw [h3] at b0
                          obtain ⟨w', hr, hst⟩ := Stp.write (P := P) rh hw hen rn
                          refine app_room hT hb a0 a1 b0 b1 hlen (hf w rfl) (by omega) (w' := w') ?_ (s' := ⟨h', s.fc⟩) hst (fun _ _ => rfl) rfl ⟨en, hen, o', by omega, fun _ => rfl, rfl⟩
                          simp only [add_none, Nat.add_assoc]; exact hr
                        · cases h
                      · cases h
                    · rename_i fits _ cc
                      split at h
                      · rename_i hfit
                        have hfit : len + n ≤ cc := by simpa using hfit
                        split at h
                        · split at h
                          · rename_i h' hw
                            cases h
                            obtain ⟨en, hen, o', h1, h2, h3⟩ := rx
                            have := h2 (by omega)
                            subst this
                            rw [h3] at b0
                            obtain ⟨w', hr, hst⟩ := Stp.write (P := P) rh hw hen rn
                            refine app_room hT hb a0 a1 b0 b1 hlen (hf w rfl) hfit (w' := w') ?_ (s' := ⟨h', s.fc⟩) hst (fun _ _ => rfl) rfl ⟨en, hen, o', hfit, fun _ => rfl, rfl⟩
                            simp only [add_none, Nat.add_assoc]; exact hr
                          · cases h
                        · cases h
                      · rename_i hfit
                        have hfit : ¬ len + n ≤ cc := by
                          intro hle
                          have := Nat.ble_eq_true_of_le hle
                          rw [this] at hfit; cases hfit
                        split at h
                        · rename_i old hold
                          cases h
                          obtain ⟨bs, c2, ou, hx2, ro, lo, hfo⟩ := first_old (P := P) rh rx hold
                          have hc2 : c2 = cc := by
                            obtain ⟨en, hen, o', h1, h2, h3⟩ := rx
                            rw [h3] at hx2; cases hx2; rfl
                          subst hc2
                          rw [hx2] at b0 hfo
                          rw [St.upd_eq]
                          exact app_new hT hb hk hbase a0 a1 b0 b1 hlen ro rn lo ln (hfo _ rfl) (hf _ rfl) hfit h48 (Stp.same rh)
                        · cases h
                    · -- open, beyond what is known
                      split at h
                      · rename_i hbb
                        simp only [Bool.and_eq_true] at hbb
                        have e1 := Nat.eq_of_beq_eq_true hbb.1.1
                        have e2 := Nat.eq_of_beq_eq_true hbb.1.2
                        have hcell := hbb.2
                        subst e1
                        split at h
                        · rename_i old hold
                          cases h
                          obtain ⟨bs, c2, ou, hx2, ro, lo, hfo⟩ := first_old (P := P) rh rx hold
                          obtain ⟨en, hen, o', h1, h2, h3⟩ := rx
                          have hc2 : c2 = en.k - eo ∧ bs = ⟨en.b, en.o + o', none⟩ := by
                            rw [h3] at hx2; cases hx2; exact ⟨rfl, rfl⟩
                          obtain ⟨hc2, hbs⟩ := hc2
                          subst hc2
                          rw [hx2] at b0 hfo
                          simp only [St.upd_eq]
                          by_cases hfit : len + n ≤ en.k - eo
                          · -- there is room
                            have := h2 (by omega)
                            subst this
                            obtain ⟨e', ob, k1, k2, k3, cv, ty', lo', hi, k4, k5, k6, k7, k8, k9⟩ := rh.blk id _ hg (by simp)
                            rw [hen] at k1; cases k1
                            subst k4
                            have hru := RVs.length rn
                            have hrow : (len + n) * es = len * es + n * es := Nat.add_mul _ _ _
                            have hk1 : (eo + (len + n)) * es ≤ en.k * es := Nat.mul_le_mul_right _ (by omega)
                            have hk2 : (eo + (len + n)) * es = o' + (len * es + n * es) := by rw [Nat.add_mul, hrow, e2]
                            have hrun := run_storeCells_fill (P := P) en.b (en.o + o' + len * es) ty' (lo', hi) nu 0 cv w k3 (by omega) k8 (cells_one hcell rn)
                            have hcs := setRow_heap w en.b cv (fillA cv.toList (en.o + o' + len * es + 0) nu).toArray ty' (lo', hi) k3
                            have hdead := Stp.dead rh id
                            have hnid : ∀ i e', live (hget (hset s.h id .dead)) i → ρ i = some e' → e'.b ≠ en.b := by
                              intro i e' hl he' hbb'
                              obtain ⟨hl', hne⟩ := hget_dead s.h id i hl
                              exact hne (rh.inj i id e' en hl' ⟨_, hg, by simp⟩ he' hen hbb')
                            have hlo := RVs.length ro
                            obtain ⟨g1, g2, g3, g4⟩ := Stp.name (key := key) hdead.rh hk (e := ⟨en.b, en.o + o', en.k - eo⟩) (blk := rowOf (old ++ news) es) k2 hcs (fun b _ hb' => setRow_other w en.b b _ hb') rfl rfl rfl (by simp) hnid (owns ρ (hget s.h))
                              (fun b ⟨i, e', hl, he', hb'⟩ => ⟨i, e', (hget_dead s.h id i hl).1, he', hb'⟩) (.inl ⟨id, en, ⟨_, hg, by simp⟩, hen, rfl⟩) (by
                                rw [rowOf_eq]
                                refine ⟨_, ty', lo', hi, rfl, ?_, ?_, ?_, by simpa [fillA_length] using k8, fun i hi' av hav => ?_⟩
                                · simp [fillA_length, lo, ln]; omega
                                · have h1' : (en.k - eo) * es = en.k * es - eo * es := Nat.sub_mul _ _ _
                                  simp only [List.size_toArray, fillA_length, Array.length_toList, h1']
                                  omega
                                · intro _
                                  rw [List.length_append, lo, ln, ← Nat.add_mul]; exact Nat.mul_le_mul_right _ hfit
                                · rw [T.get_setList] at hav
                                  rw [if_pos (by omega)] at hav
                                  simp only [Nat.sub_zero] at hav
                                  simp only [List.getElem?_toArray]
                                  rw [List.length_append, lo, ln] at hi'
                                  rw [fillA_get nu cv.toList _ _ (by simp; omega)]
                                  by_cases hin : len * es ≤ i
                                  · rw [if_pos (by omega)]
                                    rw [List.getElem?_append_right (by omega)] at hav
                                    obtain ⟨y, hy, ry⟩ := RVs.get rn _ av hav
                                    exact ⟨y, by rw [show en.o + o' + i - (en.o + o' + len * es + 0) = i - old.length by omega]; exact hy, RV.mono (ext_mono hk) _ _ ry⟩
                                  · rw [if_neg (by omega)]
                                    rw [List.getElem?_append_left (by omega)] at hav
                                    have hold' := hold
                                    unfold readCells at hold'
                                    rw [hg] at hold'
                                    simp only at hold'
                                    split at hold'
                                    · rename_i hle2
                                      have hle2 : o' + len * es ≤ m := by simpa using hle2
                                      obtain ⟨_, hget⟩ := rowGet_spec hold'
                                      have := hget i (by omega)
                                      rw [hav] at this
                                      obtain ⟨y, hy, ry⟩ := k9 (o' + i) (by omega) av this
                                      exact ⟨y, by rw [Nat.add_assoc]; simpa using hy, RV.mono (ext_mono hk) _ _ ry⟩
                                    · cases hold')
                            have hstp : Stp ρ base (hget s.h) w (ext ρ key ⟨en.b, en.o + o', en.k - eo⟩) (hget (hset (hset s.h id .dead) key (rowOf (old ++ news) es))) (w.setRow en.b (fillA cv.toList (en.o + o' + len * es + 0) nu).toArray) := ⟨g1, g2, g3, g4⟩
                            refine app_room hT hb a0 a1 b0 b1 hlen (hf w rfl) hfit (w' := _) ?_ (s' := ⟨hset (hset s.h id .dead) key (rowOf (old ++ news) es), s.fc⟩) hstp (fun i hi => by simp [ext, hi]) rfl ⟨_, ext_self _ _, 0, by simpa using hfit, fun _ => rfl, by rw [hbs]; rfl⟩
                            rw [hbs]
                            simp only [add_none]
                            exact hrun
                          · exact app_new hT hb hk hbase a0 a1 b0 b1 hlen ro rn lo ln (hfo _ rfl) (hf _ rfl) hfit h48 (Stp.dead rh id)
                        · cases h
                      · cases h
                  · cases h
            · cases h
          · cases h
        · cases h
      · cases h
    · cases h
  · cases h
end

/-- ONE OF THE OPERATIONS THAT ACT, BUT CALL NONE. -/
theorem act_sound {o : Oper} (rh : RH ρ base (hget s.h) w) (r : RF ρ fr a) (h : actOp P fr s o.op = some outs) : Some1 P ρ base key s w ((execOp a.eval o).run P w) outs := by
  obtain ⟨dst, op, ty, pos, after, gd⟩ := o
  simp only at h
  unfold actOp at h
  split at h
  · exact a_store rh r h
  · exact a_mapUpdate rh r h
  · exact a_mapEntry rh r h
  · exact a_entryStore rh r h
  · exact a_next rh r h
  · exact a_panic r h
  · cases h
theorem builtin_sound {dst : Option Tmp} {c : Call} {ty : TypeId} {pos : String} {after : Array Edge} {gd : Option (Nat × Bool)} {b : Builtin} (hb : c.callee = .builtin b) (rh : RH ρ base (hget s.h) w) (hk : ρ key = none) (hbase : base ≤ w.heap.size) (r : RF ρ fr a)
    (h : aBuiltin P fr key s c b = some outs) : Some1 P ρ base key s w ((execOp a.eval ⟨dst, .call c, ty, pos, after, gd⟩).run P w) outs := by
  unfold aBuiltin at h
  split at h
  · exact a_append hb rh hk hbase r h
  · exact a_copy hb rh r h
  · exact a_delete hb rh r h
  · exact a_clear hb rh r h
  · exact a_max hb rh r h
  · exact a_min hb rh r h
  · cases h

/-- a new block, of any kind -/
theorem newBlk_sound {o : Oper} {v : AV} {b : AB} (rh : RH ρ base (hget s.h) w) (hk : ρ key = none) (hbase : base ≤ w.heap.size) (r : RF ρ fr a) (h : newBlk P fr s.h key o.op = some (v, b)) :
    ∃ (ρ' : Map) (w' : World) (u : Value), (execOp a.eval o).run P w = .ok (.value u) w' ∧ Stp ρ base (hget s.h) w ρ' (hget (hset s.h key b)) w' ∧ (∀ i, i ≠ key → ρ' i = ρ i) ∧ RV ρ' v u := by
  obtain ⟨dst, op, ty, pos, after, gd⟩ := o
  simp only at h
  unfold newBlk at h
  split at h
  · rename_i t x
    simp only [rangeOp] at h
    split at h
    · rename_i kt et hd hx
      cases h
      have rx := r.ev hx
      simp only [RV] at rx
      refine ⟨ext ρ key ⟨w.heap.size, 0, 0⟩, w.alloc (.mapIter none 0 #[] 0), .pointer (some ⟨w.heap.size, 0, none⟩), ?_, Stp.new rh hk hbase ⟨none, rfl, rfl, rfl⟩, fun i hi => by simp [ext, hi], ⟨_, ext_self _ _, rfl⟩⟩
      simp only [execOp, Instr.range, Sem.run_bind, run_und hd, Result.andThen_ok, rx, Sem.run_pure, run_newObj_alloc]
    · rename_i kt et id hd hx
      split at h
      · rename_i es clock hg
        cases h
        obtain ⟨e, he, hax⟩ := r.ev hx
        obtain ⟨ents, hbk, _⟩ := rh.map hg he
        refine ⟨ext ρ key ⟨w.heap.size, 0, 0⟩, w.alloc (.mapIter (some e.b) clock #[] clock), .pointer (some ⟨w.heap.size, 0, none⟩), ?_, Stp.new rh hk hbase ⟨some e.b, rfl, rfl, e, ext_mono hk _ _ he, rfl⟩, fun i hi => by simp [ext, hi], ⟨_, ext_self _ _, rfl⟩⟩
        simp only [execOp, Instr.range, Sem.run_bind, run_und hd, Result.andThen_ok, hax, run_getObj hbk (by simp), Sem.run_pure, run_newObj_alloc]
      · cases h
    · cases h
  · obtain ⟨ob, k, u, h1, h2, h3⟩ := alloc_sound (key := key) (o := ⟨dst, op, ty, pos, after, gd⟩) r hk h w
    exact ⟨_, _, u, h1, Stp.new rh hk hbase h3, fun i hi => by simp [ext, hi], h2⟩
end Go.Ai
