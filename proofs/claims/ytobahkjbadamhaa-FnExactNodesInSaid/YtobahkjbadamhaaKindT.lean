/- The reference's trees: what they are in memory; l2Deep. -/
import Derived.Test.YtobahkjbadamhaaKindE
namespace Go.Proofs.Ytobahkjbadamhaa
open Go.RowKit
set_option linter.unusedVariables false
set_option maxRecDepth 100000
/-- A slice of rows in blocks from lo to hi. -/
def RSl (w : World) (lo hi : Nat) (s : Value) (rows : List (List Value)) : Prop :=
  ∃ a c, s = .slice a rows.length c ∧ (rows = [] ∨ ∃ b, a = some ⟨b, 0, none⟩ ∧ (lo ≤ b ∧ b < hi) ∧ ∀ i r, rows[i]? = some r → ∀ j u, r[j]? = some u → w.cell? ⟨b, i * 6 + j, none⟩ = some u)
mutual
/-- The cells of a tree of the reference. -/
def RepT (w : World) (lo hi : Nat) : K → List Value → Prop
  | .mk o nm no mu mo ps => fun r => ∃ (s : Value) (rows : List (List Value)), r = [.int .i64 o, .string nm, .int .i64 no, .bool mu, .int .i64 mo, s] ∧ RSl w lo hi s rows ∧ RepTs w lo hi ps rows
def RepTs (w : World) (lo hi : Nat) : List K → List (List Value) → Prop
  | [] => fun rs => rs = []
  | p :: ps => fun rs => ∃ r rs', rs = r :: rs' ∧ RepT w lo hi p r ∧ RepTs w lo hi ps rs'
end
theorem RSl.same {w w' : World} {lo hi lo' hi' : Nat} {s : Value} {rows : List (List Value)} (h : RSl w lo hi s rows) (hs : Same w w' lo hi) (h1 : lo' ≤ lo) (h2 : hi ≤ hi') : RSl w' lo' hi' s rows := by
  obtain ⟨a, c, e, h⟩ := h
  refine ⟨a, c, e, h.imp id ?_⟩
  rintro ⟨b, rfl, hb, hc⟩
  exact ⟨b, rfl, by omega, fun i r hr j u hu => by rw [hs b hb.1 hb.2]; exact hc i r hr j u hu⟩
theorem RepTs.same {w w' : World} {lo hi lo' hi' : Nat} (hs : Same w w' lo hi) (h1 : lo' ≤ lo) (h2 : hi ≤ hi') : ∀ (ps : List K), (∀ p ∈ ps, ∀ v, RepT w lo hi p v → RepT w' lo' hi' p v) → ∀ vs, RepTs w lo hi ps vs → RepTs w' lo' hi' ps vs := by
  intro ps
  induction ps with
  | nil => intro _ vs h; rw [RepTs] at h ⊢; exact h
  | cons p ps ih =>
    intro hp vs h
    rw [RepTs] at h ⊢
    obtain ⟨v, vs', e, h3, h4⟩ := h
    exact ⟨v, vs', e, hp p (by simp) v h3, ih (fun q hq => hp q (by simp [hq])) vs' h4⟩
theorem RepT.same {w w' : World} {lo hi lo' hi' : Nat} (hs : Same w w' lo hi) (h1 : lo' ≤ lo) (h2 : hi ≤ hi') (t : K) : ∀ v, RepT w lo hi t v → RepT w' lo' hi' t v := by
  refine K.ind (P := fun t => ∀ v, RepT w lo hi t v → RepT w' lo' hi' t v) ?_ t
  intro o nm no mu mo ps ih v h
  rw [RepT] at h ⊢
  obtain ⟨s, rows, e, h3, h4⟩ := h
  exact ⟨s, rows, e, h3.same hs h1 h2, RepTs.same hs h1 h2 ps ih rows h4⟩
theorem RepT.below {w w' : World} {lo hi : Nat} {t : K} {v : List Value} (h : RepT w lo hi t v) (hh : hi ≤ w.heap.size) (hb : Below w.heap.size w w') : RepT w' lo hi t v := RepT.same (Same.below hb hh) (Nat.le_refl _) (Nat.le_refl _) t v h
theorem RepTs.get {w : World} {lo hi : Nat} : ∀ (ps : List K) (vs : List (List Value)), RepTs w lo hi ps vs → vs.length = ps.length ∧ ∀ j (h : j < ps.length) (h' : j < vs.length), RepT w lo hi ps[j] vs[j] := by
  intro ps
  induction ps with
  | nil => intro vs h; rw [RepTs] at h; subst h; exact ⟨rfl, fun j h => by simp at h⟩
  | cons p ps ih =>
    intro vs h
    rw [RepTs] at h
    obtain ⟨v, vs', rfl, h1, h2⟩ := h
    obtain ⟨h3, h4⟩ := ih vs' h2
    refine ⟨by simp [h3], fun j g g' => ?_⟩
    cases j with
    | zero => exact h1
    | succ j => exact h4 j (by simpa using g) (by simpa using g')
theorem RepTs.mk {w : World} {lo hi : Nat} : ∀ (ps : List K) (vs : List (List Value)), vs.length = ps.length → (∀ j (h : j < ps.length) (h' : j < vs.length), RepT w lo hi ps[j] vs[j]) → RepTs w lo hi ps vs := by
  intro ps
  induction ps with
  | nil => intro vs h _; rw [RepTs]; exact List.eq_nil_of_length_eq_zero (by simpa using h)
  | cons p ps ih =>
    intro vs h hp
    cases vs with
    | nil => simp at h
    | cons v vs =>
      rw [RepTs]
      exact ⟨v, vs, rfl, hp 0 (by simp) (by simp), ih vs (by simpa using h) (fun j h1 h2 => hp (j + 1) (by simpa using h1) (by simpa using h2))⟩
/-- What the cells of a tree are. -/
theorem RepT.open {w : World} {lo hi : Nat} {t : K} {r : List Value} (h : RepT w lo hi t r) : ∃ (a : Option Addr) (c : Nat) (rows : List (List Value)), r = [.int .i64 t.of, .string t.name, .int .i64 t.no, .bool t.must, .int .i64 t.most, .slice a t.parts.length c] ∧
    RSl w lo hi (.slice a t.parts.length c) rows ∧ rows.length = t.parts.length ∧ ∀ j (h : j < t.parts.length) (h' : j < rows.length), RepT w lo hi t.parts[j] rows[j] := by
  obtain ⟨o, nm, no, mu, mo, ps⟩ := t
  rw [RepT] at h
  obtain ⟨s, rows, e, h3, h4⟩ := h
  obtain ⟨g1, g2⟩ := RepTs.get ps rows h4
  obtain ⟨a, c, rfl, h3'⟩ := h3
  rw [g1] at e
  exact ⟨a, c, rows, e, ⟨a, c, by rw [g1]; rfl, h3'⟩, g1, g2⟩
theorem RSl.at {w : World} {lo hi n c : Nat} {a : Option Addr} {rows : List (List Value)} (h : RSl w lo hi (.slice a n c) rows) {j : Nat} (hj : j < rows.length) : ∃ b, a = some ⟨b, 0, none⟩ ∧ (lo ≤ b ∧ b < hi) ∧ ∀ i (h : i < rows.length) k u, rows[i][k]? = some u → w.cell? ⟨b, i * 6 + k, none⟩ = some u := by
  obtain ⟨a', c', e, h⟩ := h
  cases e
  rcases h with h | ⟨b, rfl, hb, hc⟩
  · subst h; simp at hj
  · exact ⟨b, rfl, hb, fun i hi k u hu => hc i _ (List.getElem?_eq_getElem hi) k u hu⟩
set_option maxHeartbeats 1600000 in
theorem deep_s (t : K) : ∀ (r : List Value) (w : World) (lo hi : Nat), hi ≤ w.heap.size → countK t ≤ 1000000 → RepT w lo hi t r → Calls Try.prog 95 #[.agg r.toArray] w (IntPost (deepK t) w) := by
  refine K.ind2 (P := fun t => ∀ (r : List Value) (w : World) (lo hi : Nat), hi ≤ w.heap.size → countK t ≤ 1000000 → RepT w lo hi t r → Calls Try.prog 95 #[.agg r.toArray] w (IntPost (deepK t) w)) ?_ t
  intro t ih r w lo hi hh hc h
  have ih := hd ih
  obtain ⟨a, c, rows, rfl, hS, hl, hg⟩ := h.open
  have hg := hd hg
  have hdk := deep_count t
  have hz := hd (deepK_eq t)
  have hup := hd (fun n => show up1 t.of n = if holdsB t.of then n + 1 else n from rfl)
  have hch := hd (fun w' => holds_s t.of w')
  have hnn := hd (deepL_nn t.parts)
  have hbnd := hd (fun k => Int.le_trans (deepL_le 0 (t.parts.take k) (fun p _ => deep_count p)) (Int.ofNat_le.2 (countL_le t.parts k)))
  have hcc : countL t.parts ≤ 1000000 := by have := countK_eq t; omega
  have hcp := hd (fun p (hp : p ∈ t.parts) => Nat.le_trans (count_part hp) hcc)
  clear h
  have hpl : t.parts.length ≤ 1000000 := by have := len_count t.parts; omega
  generalize hps : t.parts = ps at *
  generalize t.of = o at *
  generalize t.name = nm at *
  generalize t.no = no at *
  generalize t.must = mu at *
  generalize t.most = mo at *
  generalize holdsB o = hb0 at *
  replace hps := hd hps
  have q0 := fun w' (hb : Below (w.heap.size + 1) (w.alloc (.cells #[.int .i64 o, .string nm, .int .i64 no, .bool mu, .int .i64 mo, .slice a ps.length c] 74)) w') => (show w'.cell? ⟨w.heap.size, 0, none⟩ = some (.int .i64 o) from by rw [hb.cell (by simp)]; go_simp)
  have q0 := hd q0
  have hsW : (w.alloc (.cells #[.int .i64 o, .string nm, .int .i64 no, .bool mu, .int .i64 mo, .slice a ps.length c] 74)).heap.size = w.heap.size + 1 := by simp
  go_enter Try.func95, Try.ntmps95
  go_wp2_with fail
  go_loopw [3, 10] (fun m i wr => ∃ k : Nat, k ≤ ps.length ∧ i = .int .i64 k ∧ m = .int .i64 (deepL (ps.take k)) ∧ Hd (Below (w.heap.size + 1) (w.alloc (.cells #[.int .i64 o, .string nm, .int .i64 no, .bool mu, .int .i64 mo, .slice a ps.length c] 74)) wr)) (fun _ i _ => ps.length - (intOf i).toNat)
  case atStart => exact ⟨0, Nat.zero_le _, rfl, by rw [List.take_zero, deepL], Below.refl _ _⟩
  case round =>
    obtain ⟨k, hk, rfl, rfl, hbl⟩ := hrel
    obtain ⟨wo, rfl⟩ : ∃ wo : World, wo = wr := ⟨_, rfl⟩
    have hbw := hd (show Below w.heap.size w wo from (below_a1 w).trans (hbl.out.mono (by omega)))
    by_cases hlt : k < ps.length
    · have hltI : (k : Int) < (ps.length : Int) := by omega
      obtain ⟨b1, rfl, hb1, hc1⟩ := hS.at (j := k) (by omega)
      have hp := (hg.out k hlt (by omega)).below hh hbw.out
      obtain ⟨ak, ck, rowsk, hrk, _⟩ := hp.open
      have hck := hc1 k (by omega)
      have hi := hd (fun w' (hb : Below wo.heap.size wo w') => ih.out ps[k] (List.getElem_mem hlt) rows[k] w' lo hi (Nat.le_trans hh (Nat.le_trans hbw.out.size hb.size)) (hcp.out _ (List.getElem_mem hlt)) (hp.below (Nat.le_trans hh hbw.out.size) hb))
      rw [hrk] at hck hi
      have d0 := keepCell hbw.out (show w.cell? ⟨b1, k * 6, none⟩ = _ from hck 0 _ rfl)
      have d1 := keepCell hbw.out (hck 1 _ rfl)
      have d2 := keepCell hbw.out (hck 2 _ rfl)
      have d3 := keepCell hbw.out (hck 3 _ rfl)
      have d4 := keepCell hbw.out (hck 4 _ rfl)
      have d5 := keepCell hbw.out (hck 5 _ rfl)
      have htk := hd (deepL_take hlt)
      have hbo := hd (fun o => hbl.out.trans ((below_a1 wo (a := o)).mono (by have := hbl.out.size; omega)))
      generalize ps[k] = p at *
      generalize deepK p = n1 at *
      generalize deepL (ps.take k) = n0 at *
      clear hc1 hrk hck hp
      go_wp2_with fail
      refine (hi.out _ (below_a1 wo)).mono ?_
      rintro e w2 ⟨rfl, hb2⟩
      have hbl2 := hd ((hbo.out _).trans (hb2.mono (by have := hbl.out.size; simp; omega)))
      clear hb2
      by_cases hgt : n0 < n1
      · go_wp2_with fail
        go_roundw
        case rel => exact ⟨k + 1, by omega, by go_num, by rw [htk.out]; congr 1; omega, hbl2⟩
        case measure => simp [intOf]; omega
      · go_wp2_with fail
        go_roundw
        case rel => exact ⟨k + 1, by omega, by go_num, by rw [htk.out]; congr 1; omega, hbl2⟩
        case measure => simp [intOf]; omega
    · obtain rfl : k = ps.length := by omega
      have hltI : ¬ (ps.length : Int) < (ps.length : Int) := by omega
      rw [List.take_length]
      have hb9 := hbnd.out ps.length
      rw [List.take_length] at hb9
      have hn9 := hnn.out
      generalize deepL ps = n0 at *
      have hu9 := hup.out n0
      have qq := q0.out wo hbl.out
      cases hb0 with
      | true =>
        go_wp2_with fail
        refine (hch.out wo).mono ?_
        rintro e w2 ⟨rfl, rfl⟩
        go_wp2_with fail
        go_ret
        exact ⟨by rw [hz.out, hu9]; rfl, hbw.out⟩
      | false =>
        go_wp2_with fail
        refine (hch.out wo).mono ?_
        rintro e w2 ⟨rfl, rfl⟩
        go_wp2_with fail
        go_ret
        exact ⟨by rw [hz.out, hu9]; rfl, hbw.out⟩
end Go.Proofs.Ytobahkjbadamhaa
