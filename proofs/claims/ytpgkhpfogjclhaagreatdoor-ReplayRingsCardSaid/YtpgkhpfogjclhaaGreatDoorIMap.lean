/- A part of the proof of the law ReplayRings. CONDITIONS: those that each theorem names. -/
import Derived.Test.YtpgkhpfogjclhaaGreatDoorOwnL
/-! A map of numbers, each with a one. -/
namespace Go.Ai
open Go
variable {P : Program} {t : TypeId}
def entI : List Int → Nat → MEs
  | [], _ => []
  | z :: zs, n => (.int .i64 z, .int .i64 1, n) :: entI zs (n + 1)
noncomputable def iMap (zs : List Int) : AB := .map (entI zs 0) zs.length
theorem eqIn_int {d : Nat} {x y : Int} (hu : P.underlying t = some (.int .i64)) : eqIn P (d + 1) t (.int .i64 x) (.int .i64 y) = some (x == y) := by
  simp only [eqIn, hu, decide_true]
theorem findK_int (hu : P.underlying t = some (.int .i64)) {x : Int} : ∀ (zs : List Int) (n i : Nat), (x ∈ zs → ∃ a k b, findK P t (.int .i64 x) (entI zs n) i = some (some (a, k, .int .i64 1, b))) ∧ (¬ x ∈ zs → findK P t (.int .i64 x) (entI zs n) i = some none)
  | [], n, i => ⟨fun h => absurd h (by simp), fun _ => rfl⟩
  | z :: zs, n, i => by
    have ih := findK_int hu (x := x) zs (n + 1) (Nat.succ i)
    have e : findK P t (.int .i64 x) (entI (z :: zs) n) i = match eqIn P 100 t (.int .i64 x) (.int .i64 z) with
        | some true => some (some (i, .int .i64 z, .int .i64 1, n))
        | some false => findK P t (.int .i64 x) (entI zs (n + 1)) (Nat.succ i)
        | none => none := rfl
    rw [e, eqIn_int hu]
    by_cases hx : x = z
    · subst hx
      simp
    · have : (x == z) = false := by simpa using hx
      rw [this]
      simp only [List.mem_cons, hx, false_or]
      exact ih
theorem entI_app : ∀ (zs : List Int) (x : Int) (n : Nat), entI zs n ++ [(.int .i64 x, .int .i64 1, n + zs.length)] = entI (zs ++ [x]) n
  | [], x, n => by simp [entI]
  | z :: zs, x, n => by
    simp only [entI, List.cons_append, List.length_cons]
    rw [← entI_app zs x (n + 1), show n + (zs.length + 1) = n + 1 + zs.length by omega]
theorem rLk_in {h : Heap} {id : Nat} {et : TypeId} {zs : List Int} {x : Int} (hu : P.underlying t = some (.int .i64)) (hz : zeroT P et = some (.int .i64 0)) (hg : hget h id = some (iMap zs)) (hx : x ∈ zs) : rLk P h false (some (.map t et)) (some (.map id)) (some (.int .i64 x)) = some (.int .i64 1) := by
  obtain ⟨a, k, b, e⟩ := (findK_int hu (x := x) zs 0 0).1 hx
  have hk : keyOk P t (.int .i64 x) = true := by simp [keyOk, hu, keyD, plainV]
  simp only [rLk, mapOf, hg, iMap, rLk1, hk, hz, e, rLk2, okV]
theorem rLk_out {h : Heap} {id : Nat} {et : TypeId} {zs : List Int} {x : Int} (hu : P.underlying t = some (.int .i64)) (hz : zeroT P et = some (.int .i64 0)) (hg : hget h id = some (iMap zs)) (hx : ¬ x ∈ zs) : rLk P h false (some (.map t et)) (some (.map id)) (some (.int .i64 x)) = some (.int .i64 0) := by
  have e := (findK_int hu (x := x) zs 0 0).2 hx
  have hk : keyOk P t (.int .i64 x) = true := by simp [keyOk, hu, keyD, plainV]
  simp only [rLk, mapOf, hg, iMap, rLk1, hk, hz, e, rLk2, okV]
theorem aMU_out {s : St} {id : Nat} {et : TypeId} {zs : List Int} {x : Int} (hu : P.underlying t = some (.int .i64)) (hg : hget s.h id = some (iMap zs)) (hx : ¬ x ∈ zs) :
    aMU P s (some (.map t et)) (some (.map id)) (some (.int .i64 x)) (some (.int .i64 1)) = some [.val .undef ⟨hset s.h id (iMap (zs ++ [x])), s.fc⟩] := by
  have e := (findK_int hu (x := x) zs 0 0).2 hx
  have hk : keyOk P t (.int .i64 x) = true := by simp [keyOk, hu, keyD, plainV]
  have ha := entI_app zs x 0
  rw [Nat.zero_add] at ha
  simp only [aMU, aMU2, hg, iMap, setK, hk, e, setK2, listC_eq, natC_eq, aMU3, St.upd_eq, ha, List.length_append, List.length_singleton]
theorem iMap_row {zs : List Int} {l : List AV} {es : Nat} (e : iMap zs = mkRow l es) : False := by
  simp [iMap, mkRow] at e
end Go.Ai
