/- The text of a term: plain. -/
import Derived.Test.YtbjilpemckoioaaDoorGoodT
import Derived.Test.YtbjilpemckoioaaDoorQuietB
import Derived.Lib.Join
namespace Go.Proofs.YtbjilpemckoioaaDoor
open Go.RowKit
set_option linter.unusedVariables false
mutual
/-- The text of a term: its letters. -/
def txK : K → List UInt8
  | .mk o nm no mu mo ps => if 0 < o then [36, 48 + UInt8.ofNat o.toNat] else if ps = [] then nm.data.toList else nm.data.toList ++ [40] ++ Lib.join (txs ps) [44] ++ [41]
def txs : List K → List (List UInt8)
  | [] => []
  | p :: ps => txK p :: txs ps
end
theorem txs_map : ∀ ps : List K, txs ps = ps.map txK := by
  intro ps
  induction ps with
  | nil => rw [txs]; rfl
  | cons p ps ih => rw [txs, ih]; rfl
theorem txK_eq (t : K) : txK t = if 0 < t.of then [36, 48 + UInt8.ofNat t.of.toNat] else if t.parts = [] then t.name.data.toList else t.name.data.toList ++ [40] ++ Lib.join (t.parts.map txK) [44] ++ [41] := by
  cases t; rw [txK, txs_map]; rfl
theorem txK_len {t : K} (h : TmOk t) : (txK t).length + 1 ≤ 7 * countK t := by
  induction h with
  | var v h => rw [txK_eq, if_pos (show 0 < (tmK v ⟨#[]⟩ []).of from by show 0 < v; omega)]; simp only [List.length_cons, List.length_nil]; have := countK_pos (tmK v ⟨#[]⟩ []); omega
  | app nm ks h h4 h5 hk ih =>
    have hs : Lib.lens (ks.map txK) + ks.length ≤ 7 * countL ks := by
      clear h5 hk
      induction ks with
      | nil => simp [Lib.lens, countL]
      | cons k ks ih2 =>
        have h1 := ih k (by simp)
        have h2 := ih2 (fun x hx => ih x (by simp [hx]))
        simp only [Lib.lens, List.map_cons, List.sum_cons, List.length_cons, countL] at h2 ⊢
        omega
    rw [txK_eq, if_neg (show ¬ 0 < (tmK 0 nm ks).of from by show ¬ (0 : Int) < 0; omega)]
    have hc : countK (tmK 0 nm ks) = 1 + countL ks := countK_eq _
    have hz : nm.data.toList.length ≤ 4 := by
      have e : nm.data.toList.length = nm.size := rfl
      omega
    show (if ks = [] then nm.data.toList else nm.data.toList ++ [40] ++ Lib.join (ks.map txK) [44] ++ [41]).length + 1 ≤ _
    split
    · omega
    · rename_i hne
      cases ks with
      | nil => exact absurd rfl hne
      | cons k ks =>
        rw [List.map_cons] at hs ⊢
        simp only [List.length_append, Lib.join_length, List.length_cons, List.length_nil, List.length_map] at hs ⊢
        omega
/-- What the reference has written behind the name after some kids. -/
def spx : List (List UInt8) → List UInt8
  | [] => []
  | x :: r => 40 :: x ++ Lib.joinTail [44] r
theorem spx_all {xs : List (List UInt8)} (h : xs ≠ []) : spx xs = 40 :: Lib.join xs [44] := by
  cases xs with
  | nil => exact absurd rfl h
  | cons x r => rw [spx, Lib.join_cons]; rfl
theorem spx_first {xs : List (List UInt8)} {x : List UInt8} (h : xs[0]? = some x) : spx (xs.take 1) = 40 :: x := by
  cases xs with
  | nil => simp at h
  | cons y r => simp at h; subst h; simp [spx, Lib.joinTail]
theorem spx_next {xs : List (List UInt8)} {x : List UInt8} {k : Nat} (hk : 0 < k) (h : xs[k]? = some x) : spx (xs.take (k + 1)) = spx (xs.take k) ++ (44 :: x) := by
  cases xs with
  | nil => simp at h
  | cons y r =>
    cases k with
    | zero => omega
    | succ k =>
      rw [List.take_succ_cons, List.take_succ_cons, spx, spx, Lib.joinTail_take_succ _ r k x (by simpa using h)]
      simp [List.append_assoc]
theorem spx_len (xs : List (List UInt8)) : (spx xs).length ≤ Lib.lens xs + xs.length := by
  cases xs with
  | nil => simp [spx]
  | cons x r =>
    simp only [spx, List.length_cons, List.length_append, Lib.joinTail_length, Lib.lens, List.map_cons, List.sum_cons, List.length_nil] at *
    omega
theorem tx_lens {t : K} (h : TmOk t) : Lib.lens (t.parts.map txK) + t.parts.length ≤ 7 * countL t.parts := by
  have hk : ∀ p ∈ t.parts, TmOk p := by
    cases h with
    | var v h => intro p hp; simp [tmK, K.parts] at hp
    | app nm ks h h4 h5 hk => exact hk
  generalize t.parts = ks at *
  induction ks with
  | nil => simp [Lib.lens, countL]
  | cons k ks ih2 =>
    have h1 := txK_len (hk k (by simp))
    have h2 := ih2 (fun x hx => hk x (by simp [hx]))
    simp only [Lib.lens, List.map_cons, List.sum_cons, List.length_cons, countL] at h2 ⊢
    omega
theorem TmOk.part' {t p : K} (h : TmOk t) (hp : p ∈ t.parts) : TmOk p := by
  cases h with
  | var v h => simp [tmK, K.parts] at hp
  | app nm ks h h4 h5 hk => exact hk p hp
theorem TmOk.of' {t : K} (h : TmOk t) : 0 ≤ t.of ∧ t.of ≤ 6 := by
  cases h with
  | var v h => exact (show 0 ≤ v ∧ v ≤ 6 by omega)
  | app => exact ⟨Int.le_refl _, show (0 : Int) ≤ 6 by decide⟩
theorem TmOk.nm' {t : K} (h : TmOk t) : t.name.size ≤ 4 := by
  cases h with
  | var v h => exact (show (0 : Nat) ≤ 4 by decide)
  | app nm ks h h4 h5 hk => exact h4
end Go.Proofs.YtbjilpemckoioaaDoor
