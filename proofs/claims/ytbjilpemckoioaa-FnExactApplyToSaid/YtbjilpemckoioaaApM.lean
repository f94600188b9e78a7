/- Terms for variables: plain. -/
import Derived.Test.YtbjilpemckoioaaFlatC
namespace Go.Proofs.Ytbjilpemckoioaa
open Go.RowKit
set_option linter.unusedVariables false
mutual
/-- A term with other ones in the place of its variables. -/
def apK (s : Int → K) : K → K
  | .mk o nm no mu mo ps => if 0 < o then s o else tmK 0 nm (apL s ps)
def apL (s : Int → K) : List K → List K
  | [] => []
  | p :: ps => apK s p :: apL s ps
end
theorem apL_map (s : Int → K) : ∀ ps : List K, apL s ps = ps.map (apK s) := by
  intro ps
  induction ps with
  | nil => rw [apL]; rfl
  | cons p ps ih => rw [apL, ih]; rfl
theorem apK_eq (s : Int → K) (t : K) : apK s t = if 0 < t.of then s t.of else tmK 0 t.name (t.parts.map (apK s)) := by cases t; rw [apK, apL_map]; rfl
theorem apL_count {s : Int → K} {m : Nat} : ∀ ps : List K, (∀ p ∈ ps, countK (apK s p) ≤ m * countK p) → countL (ps.map (apK s)) ≤ m * countL ps := by
  intro ps
  induction ps with
  | nil => intro _; simp [countL]
  | cons p ps ih =>
    intro h
    have h1 := h p (by simp)
    have h2 := ih (fun q hq => h q (by simp [hq]))
    rw [List.map_cons, countL, countL, Nat.mul_add]; omega
theorem apK_count {s : Int → K} {m : Nat} (hm : 1 ≤ m) (hs : ∀ o, 1 ≤ o → o ≤ 6 → countK (s o) ≤ m) {t : K} (h : TmOk t) : countK (apK s t) ≤ m * countK t := by
  induction h with
  | var v h =>
    rw [apK_eq, if_pos (show 0 < (tmK v ⟨#[]⟩ []).of from by show 0 < v; omega)]
    have h1 := hs v h.1 h.2
    have h2 := countK_pos (tmK v ⟨#[]⟩ [])
    exact Nat.le_trans h1 (Nat.le_mul_of_pos_right m h2)
  | app nm ks h h4 h5 hk ih =>
    rw [apK_eq, if_neg (show ¬ 0 < (tmK 0 nm ks).of from by show ¬ (0 : Int) < 0; omega)]
    have h1 := apL_count ks ih
    show countK (tmK 0 nm (ks.map (apK s))) ≤ m * countK (tmK 0 nm ks)
    have e1 : countK (tmK 0 nm (ks.map (apK s))) = 1 + countL (ks.map (apK s)) := countK_eq _
    have e2 : countK (tmK 0 nm ks) = 1 + countL ks := countK_eq _
    rw [e1, e2, Nat.mul_add]; omega
theorem TmOk.partA {t p : K} (h : TmOk t) (hp : p ∈ t.parts) : TmOk p := by
  cases h with
  | var v h => simp [tmK, K.parts] at hp
  | app nm ks h h4 h5 hk => exact hk p hp
theorem TmOk.ofA {t : K} (h : TmOk t) : 0 ≤ t.of ∧ t.of ≤ 6 := by
  cases h with
  | var v h => exact (show 0 ≤ v ∧ v ≤ 6 by omega)
  | app => exact ⟨Int.le_refl _, show (0 : Int) ≤ 6 by decide⟩
theorem termT_goodA {l : List DCell} {t : K} (h : termT l = some t) : countK t ≤ 30 ∧ TmOk t := by
  obtain ⟨h1, h2⟩ := termT_some h
  have h3 := rdT_count _ _ _ _ h2
  rw [List.length_nil] at h3
  exact ⟨by omega, rdT_ok _ _ _ _ h2⟩
/-- The terms of a list, where all are good. -/
def termsT : List (List DCell) → Option (List K)
  | [] => some []
  | l :: ls => (termT l).bind (fun t => (termsT ls).map (fun ts => t :: ts))
theorem termsT_snoc (l : List DCell) : ∀ ls : List (List DCell), termsT (ls ++ [l]) = (termsT ls).bind (fun ts => (termT l).map (fun t => ts ++ [t])) := by
  intro ls
  induction ls with
  | nil => rw [List.nil_append, termsT, termsT, termsT]; cases termT l <;> rfl
  | cons x ls ih =>
    rw [List.cons_append, termsT, termsT, ih]
    cases termT x with
    | none => rfl
    | some t =>
      cases termsT ls with
      | none => rfl
      | some ts => cases termT l <;> rfl
theorem termsT_take {ls : List (List DCell)} {k : Nat} (h : k < ls.length) : termsT (ls.take (k + 1)) = (termsT (ls.take k)).bind (fun ts => (termT ls[k]).map (fun t => ts ++ [t])) := by
  rw [List.take_succ_eq_append_getElem h, termsT_snoc]
theorem termsT_stop {ls : List (List DCell)} {k : Nat} (hn : termsT (ls.take k) = none) : ∀ d, k + d ≤ ls.length → termsT (ls.take (k + d)) = none := by
  intro d
  induction d with
  | zero => intro _; exact hn
  | succ d ih => intro h; rw [← Nat.add_assoc, termsT_take (by omega), ih (by omega)]; rfl
theorem termsT_len : ∀ {ls : List (List DCell)} {ts : List K}, termsT ls = some ts → ts.length = ls.length ∧ ∀ j (h : j < ls.length) (h' : j < ts.length), termT ls[j] = some ts[j] := by
  intro ls
  induction ls with
  | nil => intro ts h; rw [termsT] at h; cases h; exact ⟨rfl, fun j h => absurd h (by simp)⟩
  | cons l ls ih =>
    intro ts h
    rw [termsT] at h
    obtain ⟨t, ht, h⟩ := Option.bind_eq_some_iff.1 h
    obtain ⟨us, hu, h⟩ := Option.map_eq_some_iff.1 h
    subst h
    obtain ⟨h1, h2⟩ := ih hu
    refine ⟨by simp [h1], fun j hj hj' => ?_⟩
    cases j with
    | zero => exact ht
    | succ j => exact h2 j (by simpa using hj) (by simpa using hj')
/-- What stands for variable o. -/
def sub6 (ts : List K) (o : Int) : K := (ts[(o - 1).toNat]?).getD (tmK 0 ⟨#[]⟩ [])
theorem sub6_at {ts : List K} {i : Nat} (h : i < ts.length) : sub6 ts ((i : Int) + 1) = ts[i] := by
  rw [sub6, show ((i : Int) + 1 - 1).toNat = i by omega, List.getElem?_eq_getElem h]; rfl
/-- What ApplyTo answers. -/
def apR (l : List DCell) (ls : List (List DCell)) : Option (List DCell) :=
  (termT l).bind (fun t => (termsT ls).bind (fun ts => if ts.length = 6 ∧ countK (apK (sub6 ts) t) ≤ 30 then some (flK (apK (sub6 ts) t)) else none))
theorem apR_n0 {l : List DCell} {ls : List (List DCell)} (h : termT l = none) : apR l ls = none := by rw [apR, h]; rfl
theorem apR_n1 {l : List DCell} {ls : List (List DCell)} (h : termsT ls = none) : apR l ls = none := by
  rw [apR]; cases termT l <;> simp [h]
theorem apR_n2 {l : List DCell} {ls : List (List DCell)} (h : ls.length ≠ 6) : apR l ls = none := by
  rw [apR]
  cases termT l with
  | none => rfl
  | some t =>
    cases hs : termsT ls with
    | none => rfl
    | some ts =>
      have := (termsT_len hs).1
      show (if _ then _ else _) = _
      rw [if_neg (by omega)]
theorem apR_s {l : List DCell} {ls : List (List DCell)} {t : K} {ts : List K} (h : termT l = some t) (hs : termsT ls = some ts) (h6 : ls.length = 6) : apR l ls = if countK (apK (sub6 ts) t) ≤ 30 then some (flK (apK (sub6 ts) t)) else none := by
  have := (termsT_len hs).1
  rw [apR, h, hs]
  show (if _ then _ else _) = _
  by_cases hc : countK (apK (sub6 ts) t) ≤ 30
  · rw [if_pos ⟨by omega, hc⟩, if_pos hc]
  · rw [if_neg (fun q => hc q.2), if_neg hc]
theorem apR_len {l : List DCell} {ls : List (List DCell)} {r : List DCell} (h : apR l ls = some r) : r.length ≤ 30 := by
  rw [apR] at h
  obtain ⟨t, _, h⟩ := Option.bind_eq_some_iff.1 h
  obtain ⟨ts, _, h⟩ := Option.bind_eq_some_iff.1 h
  split at h
  · rename_i hc; cases h; rw [flK_len]; exact hc.2
  · cases h
end Go.Proofs.Ytbjilpemckoioaa
