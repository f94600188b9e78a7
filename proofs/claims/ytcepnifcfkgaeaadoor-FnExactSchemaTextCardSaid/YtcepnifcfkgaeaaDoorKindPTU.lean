/- The reference on flat lists of types: l2Around, l2Kids, l2Part (with KindT, KindU). -/
import Derived.Test.YtcepnifcfkgaeaaDoorKindABC
import Derived.Test.YtcepnifcfkgaeaaDoorBases
import Derived.Test.YtcepnifcfkgaeaaDoorKindDE
import Derived.Deep.RegionLaw
/- The reference on flat lists of types: l2Around, l2Kids, l2Part. -/
namespace Go.Proofs.YtcepnifcfkgaeaaDoor
open Go.RowKit
set_option linter.unusedVariables false
set_option maxRecDepth 100000
theorem rows_at {w : World} {a : Option Addr} {sz k : Nat} {rows : List (List Value)} (h : rows = [] ∨ ∃ b o, a = some ⟨b, o, none⟩ ∧ b < w.heap.size ∧ ∀ i r, rows[i]? = some r → ∀ j u, r[j]? = some u → w.cell? ⟨b, o + i * sz + j, none⟩ = some u) (hk : k < rows.length) :
    ∃ b o, a = some ⟨b, o, none⟩ ∧ Cells w b o sz rows := by
  rcases h with h | ⟨b, o, e, C⟩
  · rw [h] at hk; simp at hk
  · exact ⟨b, o, e, C⟩
theorem Anc.inv {l : List DType} {j q : Nat} (h : Anc l j q) : j = q ∨ ∃ p, U l j = (p : Nat) ∧ Anc l p q := by
  cases h with
  | refl => exact .inl rfl
  | up _ p _ h1 h2 => exact .inr ⟨p, h1, h2⟩
set_option maxHeartbeats 1600000 in
theorem around_s (l : List DType) (b1 o1 c i : Nat) (w : World) (hl : l.length ≤ 1000000) (C : Cells w b1 o1 6 (l.map DType.enc)) (hi0 : 0 < i) (hi : i < l.length) (hw : ∀ k, k < i → U l k < (k : Int)) (r : Bool) (hr : r = true ↔ ∃ q : Nat, U l i = (q : Int) ∧ Anc l (i - 1) q) :
    Calls Tryd.prog 31 #[.slice (some ⟨b1, o1, none⟩) l.length c, .int .i64 i] w (fun e w' => e = .returned (.bool r) ∧ w = w') := by
  have hC := hd C
  have hiI : (i : Int) < (l.length : Int) := by omega
  obtain ⟨f0, f1, f2, f3, f4, f5⟩ := Cells.rowType l i hi C
  have hUi := hd (U_at hi)
  generalize hui : l[i].up = ui at *
  have hw := hd hw
  have hr := hd hr
  have hw1 : IntKind.i64.wrap ((i : Int) - 1) = ((i - 1 : Nat) : Int) := by rw [IntWalk.i64_in _ (by omega)]; omega
  clear f0 f1 f2 f3 f5 C hui
  go_enter Tryd.func31, Tryd.ntmps31
  go_wp2_with fail
  go_loop [5] (fun n => ∃ m : Int, n = .int .i64 m ∧ m < i ∧ Hd (r = true ↔ ∃ j : Nat, m = (j : Int) ∧ ∃ q : Nat, U l i = (q : Int) ∧ Anc l j q)) (fun n => (intOf n + 1).toNat)
  case atStart =>
    refine ⟨((i - 1 : Nat) : Int), rfl, by omega, ?_⟩
    show r = true ↔ _
    rw [hr.out]
    constructor
    · intro h; exact ⟨i - 1, rfl, h⟩
    · rintro ⟨j, hj, h⟩
      have : j = i - 1 := by omega
      subst this; exact h
  case round =>
    obtain ⟨m, rfl, hm, hrel⟩ := hrel
    by_cases h0 : 0 ≤ m
    · obtain ⟨j, rfl⟩ := Int.eq_ofNat_of_zero_le h0
      have hjl : j < l.length := by omega
      have hjI : (j : Int) < (l.length : Int) := by omega
      have hj0 : (0 : Int) ≤ (j : Int) := by omega
      obtain ⟨g0, g1, g2, g3, g4, g5⟩ := Cells.rowType l j hjl hC.out
      have hUj := hd (U_at hjl)
      have hlt := hw.out j (by omega)
      rw [hUj.out] at hlt
      generalize l[j].up = uj at *
      clear g0 g1 g2 g3 g5 h0
      by_cases he : (j : Int) = ui
      · have hres := hd (show r = true from hrel.out.2 ⟨j, rfl, j, by rw [hUi.out, ← he], .refl j⟩)
        clear hlt
        subst he
        go_wp2_with fail
        go_ret
        exact ⟨by rw [hres.out]; rfl, rfl⟩
      · have heb : ((j : Int) == ui) = false := by simpa using he
        have hrel2 := hd (show r = true ↔ ∃ k : Nat, uj = (k : Int) ∧ ∃ q : Nat, U l i = (q : Int) ∧ Anc l k q by
          rw [hrel.out]
          constructor
          · rintro ⟨j', h1, q, h2, h3⟩
            have : j' = j := by omega
            subst this
            rcases h3.inv with h4 | ⟨p, h4, h5⟩
            · exfalso; rw [hUi.out] at h2; omega
            · exact ⟨p, by rw [← hUj.out]; exact h4, q, h2, h5⟩
          · rintro ⟨k, h1, q, h2, h3⟩
            exact ⟨j, rfl, q, h2, .up j k q (by rw [hUj.out]; exact h1) h3⟩)
        have hlt2 := hd hlt
        clear he hlt
        go_wp2_with fail
        go_round
        case rel => exact ⟨uj, rfl, by have := hlt2.out; omega, hrel2⟩
        case measure => have := hlt2.out; simp [intOf]; omega
    · have hres := hd (show r = false by
        rw [← Bool.not_eq_true, hrel.out]; rintro ⟨j, h1, _⟩; omega)
      have h0I : ¬ (0 : Int) ≤ m := h0
      go_wp2_with fail
      go_ret
      exact ⟨by rw [hres.out]; rfl, rfl⟩
def encN (n : Nat) : List Value := encI (n : Int)
def KidsPost (l : List DType) (k : Nat) (w : World) (e : Ending) (w' : World) : Prop := ∃ v, e = .returned v ∧ Own w' w.heap.size 3 1 v ((kidsOf l k).map encN) ∧ Below w.heap.size w w'
theorem encN_one (n : Nat) : ∀ u ∈ [encN n].flatten, u.oneCell' = true := by
  intro u hu; simp [encN, encI] at hu; subst hu; rfl
set_option maxHeartbeats 1600000 in
theorem kids_s (l : List DType) (v : Value) (k : Nat) (w : World) (hl : l.length ≤ 1000000) (h : Sl w v 6 (l.map DType.enc)) (hk : k < l.length) :
    Calls Tryd.prog 20 #[.agg #[v], .int .i64 k] w (KidsPost l k w) := by
  have hS := hd h
  obtain ⟨a1, c1, rfl, hrr⟩ := h
  have hrr := hd hrr
  simp only [List.length_map]
  obtain ⟨i0, hi, hz0, hz1, hz2⟩ := info_parts infoInt
  have Hi := hd hi; have Hz0 := hd hz0; have Hz1 := hd hz1; have Hz2 := hd hz2
  clear hi hz0 hz1 hz2
  have hw1 : IntKind.i64.wrap ((k : Int) + 1) = ((k + 1 : Nat) : Int) := by rw [IntWalk.i64_in _ (by omega)]; omega
  have hq := hd (show (w.alloc (.cells #[.slice a1 l.length c1] 30)).cell? ⟨w.heap.size, 0, none⟩ = some (.slice a1 l.length c1) by go_simp)
  obtain ⟨W, hW⟩ : ∃ W, W = w.alloc (.cells #[.slice a1 l.length c1] 30) := ⟨_, rfl⟩
  have hbW := hd (show Below w.heap.size w W by rw [hW]; exact below_a1 w)
  have hsW : W.heap.size = w.heap.size + 1 := by rw [hW]; simp
  rw [← hW] at hq
  go_enter Tryd.func20, Tryd.ntmps20
  go_upto_region 1 with (fail)
  rw [← hW]
  clear hW
  go_wp2_with fail
  go_loopw [5, 6] (fun s n wr => ∃ (i : Nat) (acc : List Nat), n = .int .i64 i ∧ (k < i ∧ i ≤ l.length) ∧ Hd (acc ++ seg l k i = kidsOf l k) ∧ Hd (acc.length ≤ i) ∧ Hd (Own wr (w.heap.size + 1) 3 1 s (acc.map encN)) ∧ Hd (Below (w.heap.size + 1) W wr)) (fun _ n _ => l.length - (intOf n).toNat)
  case atStart => exact ⟨k + 1, [], by go_num, by omega, rfl, Nat.zero_le _, Own.nil, Below.refl _ _⟩
  case round =>
    obtain ⟨i, acc, rfl, ⟨hki, hil⟩, hacc, hal, hO, hbl⟩ := hrel
    obtain ⟨wo, rfl⟩ : ∃ wo : World, wo = wr := ⟨_, rfl⟩
    have q := (show wo.cell? ⟨w.heap.size, 0, none⟩ = some (.slice a1 l.length c1) from by rw [hbl.out.cell (by simp)]; exact hq.out)
    have hbw := hd (show Below w.heap.size w wo from hbW.out.trans (hbl.out.mono (by omega)))
    by_cases hlt : i < l.length
    · have hltI : (i : Int) < (l.length : Int) := by omega
      obtain ⟨b1, o1, rfl, C1⟩ := rows_at hrr.out (k := i) (by rw [List.length_map]; exact hlt)
      obtain ⟨g0, g1, g2, g3, g4, g5⟩ := Cells.rowType l i hlt (C1.mono hbw.out)
      have hUi := U_at hlt
      have hseg := seg_cons (a := k) hlt
      rw [hUi] at hseg
      generalize l[i].up = ui at *
      replace hUi := hd hUi
      clear g0 g1 g2 g3 g5
      by_cases hu : ui = (k : Int)
      · have hacc2 := hd (show (acc ++ [i]) ++ seg l k (i + 1) = kidsOf l k by rw [← hacc.out, hseg, if_pos hu]; simp)
        subst hu
        replace hseg := hd hseg
        have hal9 := hal.out
        go_wp2_with (at_builtin; refine wpList_appOwn rfl (.tmp 24) (.tmp 26) 52 rfl (w.heap.size + 1) 3 i0 _ 1 8 Tryd.underlying52 Hi.out Hz0.out Hz1.out Hz2.out rfl (by decide) _ (acc.map encN) [encN i] rfl (hO.out.below (below_a1 _)) _ 1 1 rfl rfl (one_row rfl) (cells_new _ _ _) (encN_one i) (by rw [List.length_map]; omega) (by decide) (by have := hbl.out.size; simp; omega) ?_; intro s6 w6 ho6 hg6 hv6; have hB6 := hd ((show Below (w.heap.size + 1) W _ from hbl.out.trans ((below_a1 wo).mono (by have := hbl.out.size; omega))).grown hg6 (by have := hbl.out.size; simp; omega) (fun g hg => (hO.out.lt g hg).1)); have ho7 := hd (show Own w6 (w.heap.size + 1) 3 1 s6 ((acc ++ [i]).map encN) from by rw [List.map_append]; exact ho6); clear hg6 hv6 ho6)
        go_roundw
        case rel => exact ⟨i + 1, acc ++ [i], by go_num, by omega, hacc2, by rw [Hd]; simp; exact hal.out, ho7, hB6⟩
        case measure => simp [intOf]; omega
      · have hub : (ui == (k : Int)) = false := by simpa using hu
        have hacc2 := hd (show acc ++ seg l k (i + 1) = kidsOf l k by rw [← hacc.out, hseg, if_neg hu])
        clear hu hseg
        have hal2 := hd (show acc.length ≤ i + 1 from Nat.le_succ_of_le hal.out)
        go_wp2_with fail
        go_roundw
        case rel => exact ⟨i + 1, acc, by go_num, by omega, hacc2, hal2, hO, hbl⟩
        case measure => simp [intOf]; omega
    · obtain rfl : i = l.length := by omega
      have hltI : ¬ (l.length : Int) < (l.length : Int) := by omega
      have hfin := hd (show acc = kidsOf l k by rw [← hacc.out, seg_end (Nat.le_refl _), List.append_nil])
      go_wp2_with fail
      go_ret
      exact ⟨_, rfl, by rw [← hfin.out]; exact hO.out.weaken (by omega), hbw.out⟩
end Go.Proofs.YtcepnifcfkgaeaaDoor
/- The reference's trees: what they are in memory; l2Deep. -/
namespace Go.Proofs.YtcepnifcfkgaeaaDoor
open Go.RowKit
set_option linter.unusedVariables false
set_option maxRecDepth 100000
/-- A slice of rows in blocks from lo to hi. -/
def RSl (w : World) (lo hi : Nat) (s : Value) (rows : List (List Value)) : Prop :=
  ∃ a c, s = .slice a rows.length c ∧ (rows = [] ∨ ∃ b, a = some ⟨b, 0, none⟩ ∧ (lo ≤ b ∧ b < hi) ∧ ∀ i r, rows[i]? = some r → ∀ j u, r[j]? = some u → w.cell? ⟨b, i * 6 + j, none⟩ = some u)
mutual
/-- The cells of a tree of the reference. -/
def RepT (w : World) (lo hi : Nat) : K → List Value → Prop
  | .mk o nm no mu mo ps => fun r => ∃ (s : Value) (rows : List (List Value)), r = [.int .i64 o, .string nm, .int .i64 no, .bool mu, .int .i64 mo, s] ∧ RSl w lo hi s rows ∧ RepTs w lo hi ps rows
def RepTs (w : World) (lo hi : Nat) : List K → List (List Value) → Prop
  | [] => fun rs => rs = []
  | p :: ps => fun rs => ∃ r rs', rs = r :: rs' ∧ RepT w lo hi p r ∧ RepTs w lo hi ps rs'
end
theorem RSl.same {w w' : World} {lo hi lo' hi' : Nat} {s : Value} {rows : List (List Value)} (h : RSl w lo hi s rows) (hs : Same w w' lo hi) (h1 : lo' ≤ lo) (h2 : hi ≤ hi') : RSl w' lo' hi' s rows := by
  obtain ⟨a, c, e, h⟩ := h
  refine ⟨a, c, e, h.imp id ?_⟩
  rintro ⟨b, rfl, hb, hc⟩
  exact ⟨b, rfl, by omega, fun i r hr j u hu => by rw [hs b hb.1 hb.2]; exact hc i r hr j u hu⟩
theorem RepTs.same {w w' : World} {lo hi lo' hi' : Nat} (hs : Same w w' lo hi) (h1 : lo' ≤ lo) (h2 : hi ≤ hi') : ∀ (ps : List K), (∀ p ∈ ps, ∀ v, RepT w lo hi p v → RepT w' lo' hi' p v) → ∀ vs, RepTs w lo hi ps vs → RepTs w' lo' hi' ps vs := by
  intro ps
  induction ps with
  | nil => intro _ vs h; rw [RepTs] at h ⊢; exact h
  | cons p ps ih =>
    intro hp vs h
    rw [RepTs] at h ⊢
    obtain ⟨v, vs', e, h3, h4⟩ := h
    exact ⟨v, vs', e, hp p (by simp) v h3, ih (fun q hq => hp q (by simp [hq])) vs' h4⟩
theorem RepT.same {w w' : World} {lo hi lo' hi' : Nat} (hs : Same w w' lo hi) (h1 : lo' ≤ lo) (h2 : hi ≤ hi') (t : K) : ∀ v, RepT w lo hi t v → RepT w' lo' hi' t v := by
  refine K.ind (P := fun t => ∀ v, RepT w lo hi t v → RepT w' lo' hi' t v) ?_ t
  intro o nm no mu mo ps ih v h
  rw [RepT] at h ⊢
  obtain ⟨s, rows, e, h3, h4⟩ := h
  exact ⟨s, rows, e, h3.same hs h1 h2, RepTs.same hs h1 h2 ps ih rows h4⟩
theorem RepT.below {w w' : World} {lo hi : Nat} {t : K} {v : List Value} (h : RepT w lo hi t v) (hh : hi ≤ w.heap.size) (hb : Below w.heap.size w w') : RepT w' lo hi t v := RepT.same (Same.below hb hh) (Nat.le_refl _) (Nat.le_refl _) t v h
theorem RepTs.get {w : World} {lo hi : Nat} : ∀ (ps : List K) (vs : List (List Value)), RepTs w lo hi ps vs → vs.length = ps.length ∧ ∀ j (h : j < ps.length) (h' : j < vs.length), RepT w lo hi ps[j] vs[j] := by
  intro ps
  induction ps with
  | nil => intro vs h; rw [RepTs] at h; subst h; exact ⟨rfl, fun j h => by simp at h⟩
  | cons p ps ih =>
    intro vs h
    rw [RepTs] at h
    obtain ⟨v, vs', rfl, h1, h2⟩ := h
    obtain ⟨h3, h4⟩ := ih vs' h2
    refine ⟨by simp [h3], fun j g g' => ?_⟩
    cases j with
    | zero => exact h1
    | succ j => exact h4 j (by simpa using g) (by simpa using g')
theorem RepTs.mk {w : World} {lo hi : Nat} : ∀ (ps : List K) (vs : List (List Value)), vs.length = ps.length → (∀ j (h : j < ps.length) (h' : j < vs.length), RepT w lo hi ps[j] vs[j]) → RepTs w lo hi ps vs := by
  intro ps
  induction ps with
  | nil => intro vs h _; rw [RepTs]; exact List.eq_nil_of_length_eq_zero (by simpa using h)
  | cons p ps ih =>
    intro vs h hp
    cases vs with
    | nil => simp at h
    | cons v vs =>
      rw [RepTs]
      exact ⟨v, vs, rfl, hp 0 (by simp) (by simp), ih vs (by simpa using h) (fun j h1 h2 => hp (j + 1) (by simpa using h1) (by simpa using h2))⟩
/-- What the cells of a tree are. -/
theorem RepT.open {w : World} {lo hi : Nat} {t : K} {r : List Value} (h : RepT w lo hi t r) : ∃ (a : Option Addr) (c : Nat) (rows : List (List Value)), r = [.int .i64 t.of, .string t.name, .int .i64 t.no, .bool t.must, .int .i64 t.most, .slice a t.parts.length c] ∧
    RSl w lo hi (.slice a t.parts.length c) rows ∧ rows.length = t.parts.length ∧ ∀ j (h : j < t.parts.length) (h' : j < rows.length), RepT w lo hi t.parts[j] rows[j] := by
  obtain ⟨o, nm, no, mu, mo, ps⟩ := t
  rw [RepT] at h
  obtain ⟨s, rows, e, h3, h4⟩ := h
  obtain ⟨g1, g2⟩ := RepTs.get ps rows h4
  obtain ⟨a, c, rfl, h3'⟩ := h3
  rw [g1] at e
  exact ⟨a, c, rows, e, ⟨a, c, by rw [g1]; rfl, h3'⟩, g1, g2⟩
theorem RSl.at {w : World} {lo hi n c : Nat} {a : Option Addr} {rows : List (List Value)} (h : RSl w lo hi (.slice a n c) rows) {j : Nat} (hj : j < rows.length) : ∃ b, a = some ⟨b, 0, none⟩ ∧ (lo ≤ b ∧ b < hi) ∧ ∀ i (h : i < rows.length) k u, rows[i][k]? = some u → w.cell? ⟨b, i * 6 + k, none⟩ = some u := by
  obtain ⟨a', c', e, h⟩ := h
  cases e
  rcases h with h | ⟨b, rfl, hb, hc⟩
  · subst h; simp at hj
  · exact ⟨b, rfl, hb, fun i hi k u hu => hc i _ (List.getElem?_eq_getElem hi) k u hu⟩
set_option maxHeartbeats 1600000 in
theorem deep_s (t : K) : ∀ (r : List Value) (w : World) (lo hi : Nat), hi ≤ w.heap.size → countK t ≤ 1000000 → RepT w lo hi t r → Calls Tryd.prog 21 #[.agg r.toArray] w (IntPost (deepK t) w) := by
  refine K.ind2 (P := fun t => ∀ (r : List Value) (w : World) (lo hi : Nat), hi ≤ w.heap.size → countK t ≤ 1000000 → RepT w lo hi t r → Calls Tryd.prog 21 #[.agg r.toArray] w (IntPost (deepK t) w)) ?_ t
  intro t ih r w lo hi hh hc h
  have ih := hd ih
  obtain ⟨a, c, rows, rfl, hS, hl, hg⟩ := h.open
  have hg := hd hg
  have hdk := deep_count t
  have hz := hd (deepK_eq t)
  have hup := hd (fun n => show up1 t.of n = if holdsB t.of then n + 1 else n from rfl)
  have hch := hd (fun w' => holds_s t.of w')
  have hnn := hd (deepL_nn t.parts)
  have hbnd := hd (fun k => Int.le_trans (deepL_le 0 (t.parts.take k) (fun p _ => deep_count p)) (Int.ofNat_le.2 (countL_le t.parts k)))
  have hcc : countL t.parts ≤ 1000000 := by have := countK_eq t; omega
  have hcp := hd (fun p (hp : p ∈ t.parts) => Nat.le_trans (count_part hp) hcc)
  clear h
  have hpl : t.parts.length ≤ 1000000 := by have := len_count t.parts; omega
  generalize hps : t.parts = ps at *
  generalize t.of = o at *
  generalize t.name = nm at *
  generalize t.no = no at *
  generalize t.must = mu at *
  generalize t.most = mo at *
  generalize holdsB o = hb0 at *
  replace hps := hd hps
  have q0 := fun w' (hb : Below (w.heap.size + 1) (w.alloc (.cells #[.int .i64 o, .string nm, .int .i64 no, .bool mu, .int .i64 mo, .slice a ps.length c] 39)) w') => (show w'.cell? ⟨w.heap.size, 0, none⟩ = some (.int .i64 o) from by rw [hb.cell (by simp)]; go_simp)
  have q0 := hd q0
  have hsW : (w.alloc (.cells #[.int .i64 o, .string nm, .int .i64 no, .bool mu, .int .i64 mo, .slice a ps.length c] 39)).heap.size = w.heap.size + 1 := by simp
  go_enter Tryd.func21, Tryd.ntmps21
  go_wp2_with fail
  go_loopw [3, 10] (fun m i wr => ∃ k : Nat, k ≤ ps.length ∧ i = .int .i64 k ∧ m = .int .i64 (deepL (ps.take k)) ∧ Hd (Below (w.heap.size + 1) (w.alloc (.cells #[.int .i64 o, .string nm, .int .i64 no, .bool mu, .int .i64 mo, .slice a ps.length c] 39)) wr)) (fun _ i _ => ps.length - (intOf i).toNat)
  case atStart => exact ⟨0, Nat.zero_le _, rfl, by rw [List.take_zero, deepL], Below.refl _ _⟩
  case round =>
    obtain ⟨k, hk, rfl, rfl, hbl⟩ := hrel
    obtain ⟨wo, rfl⟩ : ∃ wo : World, wo = wr := ⟨_, rfl⟩
    have hbw := hd (show Below w.heap.size w wo from (below_a1 w).trans (hbl.out.mono (by omega)))
    by_cases hlt : k < ps.length
    · have hltI : (k : Int) < (ps.length : Int) := by omega
      obtain ⟨b1, rfl, hb1, hc1⟩ := hS.at (j := k) (by omega)
      have hp := (hg.out k hlt (by omega)).below hh hbw.out
      obtain ⟨ak, ck, rowsk, hrk, _⟩ := hp.open
      have hck := hc1 k (by omega)
      have hi := hd (fun w' (hb : Below wo.heap.size wo w') => ih.out ps[k] (List.getElem_mem hlt) rows[k] w' lo hi (Nat.le_trans hh (Nat.le_trans hbw.out.size hb.size)) (hcp.out _ (List.getElem_mem hlt)) (hp.below (Nat.le_trans hh hbw.out.size) hb))
      rw [hrk] at hck hi
      have d0 := keepCell hbw.out (show w.cell? ⟨b1, k * 6, none⟩ = _ from hck 0 _ rfl)
      have d1 := keepCell hbw.out (hck 1 _ rfl)
      have d2 := keepCell hbw.out (hck 2 _ rfl)
      have d3 := keepCell hbw.out (hck 3 _ rfl)
      have d4 := keepCell hbw.out (hck 4 _ rfl)
      have d5 := keepCell hbw.out (hck 5 _ rfl)
      have htk := hd (deepL_take hlt)
      have hbo := hd (fun o => hbl.out.trans ((below_a1 wo (a := o)).mono (by have := hbl.out.size; omega)))
      generalize ps[k] = p at *
      generalize deepK p = n1 at *
      generalize deepL (ps.take k) = n0 at *
      clear hc1 hrk hck hp
      go_wp2_with fail
      refine (hi.out _ (below_a1 wo)).mono ?_
      rintro e w2 ⟨rfl, hb2⟩
      have hbl2 := hd ((hbo.out _).trans (hb2.mono (by have := hbl.out.size; simp; omega)))
      clear hb2
      by_cases hgt : n0 < n1
      · go_wp2_with fail
        go_roundw
        case rel => exact ⟨k + 1, by omega, by go_num, by rw [htk.out]; congr 1; omega, hbl2⟩
        case measure => simp [intOf]; omega
      · go_wp2_with fail
        go_roundw
        case rel => exact ⟨k + 1, by omega, by go_num, by rw [htk.out]; congr 1; omega, hbl2⟩
        case measure => simp [intOf]; omega
    · obtain rfl : k = ps.length := by omega
      have hltI : ¬ (ps.length : Int) < (ps.length : Int) := by omega
      rw [List.take_length]
      have hb9 := hbnd.out ps.length
      rw [List.take_length] at hb9
      have hn9 := hnn.out
      generalize deepL ps = n0 at *
      have hu9 := hup.out n0
      have qq := q0.out wo hbl.out
      cases hb0 with
      | true =>
        go_wp2_with fail
        refine (hch.out wo).mono ?_
        rintro e w2 ⟨rfl, rfl⟩
        go_wp2_with fail
        go_ret
        exact ⟨by rw [hz.out, hu9]; rfl, hbw.out⟩
      | false =>
        go_wp2_with fail
        refine (hch.out wo).mono ?_
        rintro e w2 ⟨rfl, rfl⟩
        go_wp2_with fail
        go_ret
        exact ⟨by rw [hz.out, hu9]; rfl, hbw.out⟩
end Go.Proofs.YtcepnifcfkgaeaaDoor
/- The reference's tree of a flat list: l2Tree. -/
namespace Go.Proofs.YtcepnifcfkgaeaaDoor
open Go.RowKit
set_option linter.unusedVariables false
set_option maxRecDepth 100000
theorem infoT : (Tryd.prog.info? 39).map (fun i => (i.zero, i.size, i.bytes)) = some (some (.agg #[.int .i64 0, .string ⟨#[]⟩, .int .i64 0, .bool false, .int .i64 0, .slice none 0 0]), 6, 72) := by kernel_rfl
def SepT (w : World) (b : Nat) (s : Value) (ps : List K) (vs : List (List Value)) : Prop :=
  vs.length = ps.length ∧ ∀ i (h : i < ps.length) (h' : i < vs.length), ∃ lo hi, b < lo ∧ hi ≤ w.heap.size ∧ (∀ g, s.ownBlock = some g → g < lo ∨ hi ≤ g) ∧ RepT w lo hi ps[i] vs[i]
theorem SepT.nil {w : World} {b : Nat} {s : Value} : SepT w b s [] [] := ⟨rfl, fun i h => by simp at h⟩
theorem SepT.step {w w1 w2 w3 w4 : World} {b : Nat} {s s' : Value} {ps : List K} {vs : List (List Value)} {p : K} {v : List Value} {u : Value} (h : SepT w b s ps vs) (hb : b < w.heap.size) (hs : ∀ g, s.ownBlock = some g → g < w.heap.size)
    (h1 : Below w.heap.size w w1) (hr : RepT w1 w.heap.size w1.heap.size p v) (h2 : w1.heap.size ≤ w2.heap.size) (h2b : Below w1.heap.size w1 w2) (h3 : w2.grownBy w3 s.ownBlock) (hs' : s'.ownBlock = s.ownBlock ∨ s'.ownBlock = some w2.heap.size) (h4 : w4 = w3.setCell ⟨b, 5, none⟩ u) : SepT w4 b s' (ps ++ [p]) (vs ++ [v]) := by
  subst h4
  have hsz : w3.heap.size ≤ (w3.setCell ⟨b, 5, none⟩ u).heap.size := (grownBy_setCell w3 ⟨b, 5, none⟩ u).size
  have z1 := h1.size
  have z3 := h3.size
  have carry : ∀ lo hi (t : K) (x : List Value), b < lo → hi ≤ w1.heap.size → (∀ g, s.ownBlock = some g → g < lo ∨ hi ≤ g) → RepT w1 lo hi t x →
      hi ≤ (w3.setCell ⟨b, 5, none⟩ u).heap.size ∧ (∀ g, s'.ownBlock = some g → g < lo ∨ hi ≤ g) ∧ RepT (w3.setCell ⟨b, 5, none⟩ u) lo hi t x := by
    intro lo hi t x g1 g2 g3 g4
    refine ⟨by omega, ?_, ?_⟩
    · intro g hg
      rcases hs' with e | e
      · exact g3 g (by rw [← e]; exact hg)
      · rw [e] at hg; cases hg; right; omega
    · have k1 := RepT.same (Same.below h2b g2) (Nat.le_refl _) (Nat.le_refl _) t x g4
      have k2 := RepT.same (Same.grown h3 (by omega) g3) (Nat.le_refl _) (Nat.le_refl _) t x k1
      exact RepT.same (Same.grown (grownBy_setCell w3 ⟨b, 5, none⟩ u) (by omega) (fun g hg => by cases hg; left; exact g1)) (Nat.le_refl _) (Nat.le_refl _) t x k2
  refine ⟨by simp [h.1], fun i g g' => ?_⟩
  by_cases hi : i < ps.length
  · have hi' : i < vs.length := by rw [h.1]; exact hi
    obtain ⟨lo, hi2, q1, q2, q3, q4⟩ := h.2 i hi hi'
    have q5 := RepT.same (Same.below h1 q2) (Nat.le_refl _) (Nat.le_refl _) _ _ q4
    obtain ⟨r1, r2, r3⟩ := carry lo hi2 ps[i] vs[i] q1 (by omega) q3 q5
    refine ⟨lo, hi2, q1, r1, r2, ?_⟩
    rw [List.getElem_append_left hi, List.getElem_append_left hi']; exact r3
  · have e : i = ps.length := by simp at g; omega
    subst e
    obtain ⟨r1, r2, r3⟩ := carry w.heap.size w1.heap.size p v hb (Nat.le_refl _) (fun g hg => .inl (hs g hg)) hr
    refine ⟨w.heap.size, w1.heap.size, hb, r1, r2, ?_⟩
    rw [List.getElem_append_right (Nat.le_refl _), List.getElem_append_right (by rw [h.1]; exact Nat.le_refl _)]
    simpa [h.1] using r3
theorem SepT.below {w w' : World} {b : Nat} {s : Value} {ps : List K} {vs : List (List Value)} (h : SepT w b s ps vs) (hb : Same w w' 0 w.heap.size) (hz : w.heap.size ≤ w'.heap.size) : SepT w' b s ps vs :=
  ⟨h.1, fun i h1 h2 => by
    obtain ⟨lo, hi, q1, q2, q3, q4⟩ := h.2 i h1 h2
    exact ⟨lo, hi, q1, Nat.le_trans q2 hz, q3, RepT.same (fun b h1 h2 o => hb b (Nat.zero_le _) (by omega) o) (Nat.le_refl _) (Nat.le_refl _) _ _ q4⟩⟩
theorem SepT.rep {w : World} {b B : Nat} {s : Value} {ps : List K} {vs : List (List Value)} (h : SepT w b s ps vs) (hB : B ≤ b) : RepTs w B w.heap.size ps vs :=
  RepTs.mk ps vs h.1 (fun j h1 h2 => by
    obtain ⟨lo, hi, q1, q2, _, q4⟩ := h.2 j h1 h2
    exact RepT.same (fun _ _ _ _ => rfl) (by omega) q2 _ _ q4)
theorem RSl.own {w : World} {B E hi : Nat} {s : Value} {rows : List (List Value)} (h : Own w B E 6 s rows) (hs : ∀ g, s.ownBlock = some g → g < hi) : RSl w B hi s rows := by
  by_cases hn : rows = []
  · subst hn
    obtain ⟨a, c, e, _⟩ := h.sl
    exact ⟨a, c, e, .inl rfl⟩
  · obtain ⟨g, c, e, hg1, hg2⟩ := h.addr hn
    subst e
    refine ⟨_, c, rfl, .inr ⟨g, rfl, ⟨hg1, hs g rfl⟩, fun i r hr j u hu => (h.cell hr hu).1⟩⟩
def TreePost (t : K) (w : World) (e : Ending) (w' : World) : Prop := ∃ r : List Value, e = .returned (.agg r.toArray) ∧ RepT w' w.heap.size w'.heap.size t r ∧ Below w.heap.size w w'
theorem rowT_one {o : Int} {nm : ByteArray} {no : Int} {mu : Bool} {mo : Int} {a : Option Addr} {n c : Nat} : ∀ u ∈ [[Value.int .i64 o, .string nm, .int .i64 no, .bool mu, .int .i64 mo, .slice a n c]].flatten, u.oneCell' = true := by
  intro u hu
  simp at hu
  rcases hu with rfl | rfl | rfl | rfl | rfl | rfl <;> rfl
theorem grownBy_setCells (g : Nat) : ∀ (us : List Value) (w : World) (p : Nat), w.grownBy (setCells w g p us) (some g) := by
  intro us
  induction us with
  | nil => intro w p; exact grownBy_refl _ _
  | cons u us ih => intro w p; exact grownBy_trans (grownBy_setCell w ⟨g, p, none⟩ u) (ih _ _) (.inl rfl)
set_option maxHeartbeats 6400000 in
theorem tree_s (l : List DType) (b1 o1 c : Nat) (hl : l.length ≤ 1000000) (t : K) : ∀ (k : Nat) (w : World), Sb l k t → Cells w b1 o1 6 (l.map DType.enc) → countK t ≤ 1000000 →
    Calls Tryd.prog 12 #[.agg #[.slice (some ⟨b1, o1, none⟩) l.length c], .int .i64 k] w (TreePost t w) := by
  refine K.ind (P := fun t => ∀ (k : Nat) (w : World), Sb l k t → Cells w b1 o1 6 (l.map DType.enc) → countK t ≤ 1000000 →
    Calls Tryd.prog 12 #[.agg #[.slice (some ⟨b1, o1, none⟩) l.length c], .int .i64 k] w (TreePost t w)) ?_ t
  intro o nm no mu mo ps ih k w hSb C hcnt
  have ih := hd ih
  have hC := hd C
  obtain ⟨⟨hk, hk0, hk1, hk2, hk3, hk4⟩, _, hkd1, hkd2⟩ := hSb.kids
  have hkI : (k : Int) < (l.length : Int) := by omega
  have hcc : countL ps ≤ 1000000 := by rw [countK] at hcnt; omega
  have hpl : ps.length ≤ 1000000 := by have := len_count ps; omega
  have hcp := hd (fun p (hp : p ∈ ps) => Nat.le_trans (count_part hp) hcc)
  have hkd2 := hd hkd2
  obtain ⟨qs, hqs⟩ : ∃ qs, qs = kidsOf l k := ⟨_, rfl⟩
  rw [← hqs] at hkd1
  have hkd2 := hd (show ∀ j (h : j < qs.length) (h' : j < ps.length), Sb l qs[j] ps[j] by rw [hqs]; exact hkd2.out)
  obtain ⟨i0, hi, hz0, hz1, hz2⟩ := info_parts infoT
  have Hi := hd hi; have Hz0 := hd hz0; have Hz1 := hd hz1; have Hz2 := hd hz2
  clear hi hz0 hz1 hz2
  have hq := hd (show ((w.alloc (.cells #[.slice (some ⟨b1, o1, none⟩) l.length c] 30)).alloc (.cells #[.int .i64 0, .string ⟨#[]⟩, .int .i64 0, .bool false, .int .i64 0, .slice none 0 0] 39)).cell? ⟨w.heap.size, 0, none⟩ = some (.slice (some ⟨b1, o1, none⟩) l.length c) by go_simp)
  have hXr := hd (show BoxN ((w.alloc (.cells #[.slice (some ⟨b1, o1, none⟩) l.length c] 30)).alloc (.cells #[.int .i64 0, .string ⟨#[]⟩, .int .i64 0, .bool false, .int .i64 0, .slice none 0 0] 39)) (w.heap.size + 1) [.int .i64 0, .string ⟨#[]⟩, .int .i64 0, .bool false, .int .i64 0, .slice none 0 0] from by have := BoxN.new (w.alloc (.cells #[.slice (some ⟨b1, o1, none⟩) l.length c] 30)) [.int .i64 0, .string ⟨#[]⟩, .int .i64 0, .bool false, .int .i64 0, .slice none 0 0] 39; rwa [World.size_alloc] at this)
  obtain ⟨V, hV⟩ : ∃ V, V = (w.alloc (.cells #[.slice (some ⟨b1, o1, none⟩) l.length c] 30)).alloc (.cells #[.int .i64 0, .string ⟨#[]⟩, .int .i64 0, .bool false, .int .i64 0, .slice none 0 0] 39) := ⟨_, rfl⟩
  have hbV := hd (show Below w.heap.size w V by rw [hV]; exact below_a2 w)
  have hsV : V.heap.size = w.heap.size + 2 := by rw [hV]; simp
  rw [← hV] at hq hXr
  replace hV := hd hV
  obtain ⟨f0, f1, f2, f3, f4, f5⟩ := Cells.rowType l k hk (hC.out.mono hbV.out)
  rw [hk0] at f0
  rw [hk1] at f1
  rw [hk2] at f2
  rw [hk3] at f3
  rw [hk4] at f5
  generalize l[k].up = ux at *
  clear hk0 hk1 hk2 hk3 hk4 C hSb hcnt
  go_enter Tryd.func12, Tryd.ntmps12
  go_upto_region 1 with (fail)
  rw [← hV.out]
  clear hV
  have qV := hq.out
  go_upto_region 3 with (fail)
  have pf := keepCell (below_a2 V (a := (.cells #[.int .i64 o, .string nm, .int .i64 no, .bool mu, .int .i64 ux, .int .i64 mo] 50)) (b := (.cells #[.int .i64 o, .string nm, .int .i64 no, .bool mu, .int .i64 mo, .slice none 0 0] 39))) hq.out
  have hXo := hd (show BoxN ((V.alloc (.cells #[.int .i64 o, .string nm, .int .i64 no, .bool mu, .int .i64 ux, .int .i64 mo] 50)).alloc (.cells #[.int .i64 o, .string nm, .int .i64 no, .bool mu, .int .i64 mo, .slice none 0 0] 39)) (w.heap.size + 2 + 1) [.int .i64 o, .string nm, .int .i64 no, .bool mu, .int .i64 mo, .slice none 0 0] from by have := BoxN.new (V.alloc (.cells #[.int .i64 o, .string nm, .int .i64 no, .bool mu, .int .i64 ux, .int .i64 mo] 50)) [.int .i64 o, .string nm, .int .i64 no, .bool mu, .int .i64 mo, .slice none 0 0] 39; rwa [World.size_alloc, hsV] at this)
  have hXr2 := hd (hXr.out.below (below_a2 V (a := (.cells #[.int .i64 o, .string nm, .int .i64 no, .bool mu, .int .i64 ux, .int .i64 mo] 50)) (b := (.cells #[.int .i64 o, .string nm, .int .i64 no, .bool mu, .int .i64 mo, .slice none 0 0] 39))))
  have hbW := hd (hbV.out.next (below_a2 V (a := (.cells #[.int .i64 o, .string nm, .int .i64 no, .bool mu, .int .i64 ux, .int .i64 mo] 50)) (b := (.cells #[.int .i64 o, .string nm, .int .i64 no, .bool mu, .int .i64 mo, .slice none 0 0] 39))))
  have hsW : ((V.alloc (.cells #[.int .i64 o, .string nm, .int .i64 no, .bool mu, .int .i64 ux, .int .i64 mo] 50)).alloc (.cells #[.int .i64 o, .string nm, .int .i64 no, .bool mu, .int .i64 mo, .slice none 0 0] 39)).heap.size = w.heap.size + 4 := by simp; omega
  generalize (V.alloc (.cells #[.int .i64 o, .string nm, .int .i64 no, .bool mu, .int .i64 ux, .int .i64 mo] 50)).alloc (.cells #[.int .i64 o, .string nm, .int .i64 no, .bool mu, .int .i64 mo, .slice none 0 0] 39) = W at *
  clear f0 f1 f2 f3 f4 f5 qV hXr hbV hq hsV
  have ck := hd (kids_s l _ k W hl (show Sl W (.slice (some ⟨b1, o1, none⟩) l.length c) 6 (l.map DType.enc) from ⟨_, c, by rw [List.length_map], .inr ⟨b1, o1, rfl, hC.out.mono hbW.out⟩⟩) hk)
  go_wp2_with fail
  refine ck.out.mono ?_
  rintro e w3 ⟨vK, rfl, hoK, hb3⟩
  rw [← hqs] at hoK
  obtain ⟨aK, cK, rfl, hrK⟩ := hoK.sl
  have hrK := hd hrK
  have hKB := hd hoK.lt
  simp only [List.length_map] at *
  have hz3 := hb3.size
  have qf := keepCell hb3 pf
  have hXo3 := hd (hXo.out.below hb3)
  have hXr3 := hd (hXr2.out.below hb3)
  have hB3 := hd (hbW.out.next hb3)
  have hqlen : (qs.length : Int) = (ps.length : Int) := by omega
  clear hoK hb3 pf ck
  rw [hkd1]
  go_wp2_with fail
  go_loopw [29] (fun n wr => ∃ (j : Nat) (s : Value) (rows : List (List Value)), j ≤ ps.length ∧ n = .int .i64 j ∧ Hd (BoxN wr (w.heap.size + 2 + 1) [.int .i64 o, .string nm, .int .i64 no, .bool mu, .int .i64 mo, s]) ∧ Hd (Own wr w3.heap.size 39 6 s rows) ∧ Hd (SepT wr (w.heap.size + 2 + 1) s (ps.take j) rows) ∧ Hd (w3.grownBy wr (some (w.heap.size + 2 + 1)))) (fun n _ => ps.length - (intOf n).toNat)
  case atStart => exact ⟨0, .slice none 0 0, [], Nat.zero_le _, rfl, hXo3.out, Own.nil, SepT.nil, grownBy_refl _ _⟩
  case round =>
    obtain ⟨j, s, rows, hj, rfl, hX, hO, hSep, hG⟩ := hrel
    obtain ⟨wo, rfl⟩ : ∃ wo : World, wo = wr := ⟨_, rfl⟩
    have hzG := hG.out.size
    have qo := hG.out.cell qf (fun e => by have : w.heap.size = w.heap.size + 2 + 1 := Option.some.inj e; omega)
    have hXr4 := hd (hXr3.out.grown hG.out (fun e => by have : w.heap.size + 1 = w.heap.size + 2 + 1 := Option.some.inj e; omega))
    by_cases hlt : j < ps.length
    · have hltI : (j : Int) < (ps.length : Int) := by omega
      obtain ⟨bK, oK, rfl, CK⟩ := rows_at hrK.out (k := j) (by rw [List.length_map]; omega)
      have kq0 := CK.2 j (encN qs[j]) (by simp [show j < qs.length by omega]) 0 _ rfl
      rw [Nat.mul_one, Nat.add_zero] at kq0
      have kq := hG.out.cell kq0 (fun e => by have h1 : bK = w.heap.size + 2 + 1 := Option.some.inj e; have := hKB.out bK rfl; omega)
      have ci := hd (fun w' (hb : Below wo.heap.size wo w') => ih.out ps[j] (List.getElem_mem hlt) (qs[j]'(by omega)) w' (hkd2.out j (by omega) hlt)
        (Cells.mono (Cells.kept (hC.out.mono hB3.out) hG.out (fun e => by have h1 : b1 = w.heap.size + 2 + 1 := Option.some.inj e; have := hC.out.1; omega)) hb) (hcp.out _ (List.getElem_mem hlt)))
      have hvl : rows.length = j := by have := hSep.out.1; rw [List.length_take] at this; omega
      have htk := hd (show ps.take (j + 1) = ps.take j ++ [ps[j]] from List.take_succ_eq_append_getElem hlt)
      have y5 := hX.out.1 5 _ rfl
      have hbz := hX.out.2.2
      clear kq0 CK
      generalize ps[j] = p at *
      generalize (qs[j]'(by omega)) = qj at *
      go_wp2_with fail
      go_region_law (first
        | (refine step_appOwn (by rfl) _ _ _ (by rfl) w3.heap.size 39 i0 _ 6 72 Tryd.underlying37 Hi.out Hz0.out Hz1.out Hz2.out (by rfl) (by decide) _ rows [[.int .i64 p.of, .string p.name, .int .i64 p.no, .bool p.must, .int .i64 p.most, .slice a5 p.parts.length c5]] (by rfl) (hO5.out.below (below_a1 _)) _ 1 _ (by rfl) (by rfl) (one_row rfl) (cells_new _ _ _) rowT_one (by omega) (by decide) (by first | omega | exact Nat.le_refl _ | (simp; done) | (simp; omega)) ?_; intro s6 w6 ho6 hg6 hv6; obtain ⟨a6, c6, hs6, _⟩ := ho6.sl; rw [List.length_append, List.length_singleton, hvl] at hs6; subst hs6; have hX6 := hd ((hX5.out.below (below_a1 _)).grown hg6 (by intro e; have := (hO5.out.lt _ e.symm).1; omega)); have y6 := hX6.out.1 5 _ rfl; have r6 := hX6.out.2.1 5; have hg6 := hd hg6; have hv6 := hd hv6; have ho6 := hd ho6; have hz6 := hg6.out.size)
        | (go_simp; go_at_call 12; refine (ci.out _ (by first | exact Below.refl _ _ | exact (Below.refl _ _).drew)).mono ?_; rintro e' w5 ⟨r5, rfl, hr5, hb5⟩; obtain ⟨a5, c5, rows5, rfl, _⟩ := hr5.open; have hb5 := hd (show Below wo.heap.size wo w5 from by first | exact hb5 | exact (Below.refl _ wo).drew.next hb5); have hr5 := hd (show RepT w5 wo.heap.size w5.heap.size p _ from hr5); have hX5 := hd (hX.out.below hb5.out); have hO5 := hd (hO.out.below hb5.out); have hz5 := hb5.out.size; have y5b := hX5.out.1 5 _ rfl; have y5c := fun o => keepCell (below_a1 w5 (a := o)) y5b))
      all_goals
        have hne6 : ∀ g, (Value.slice a6 (j + 1) c6).ownBlock = some g → w3.heap.size ≤ g := fun g hg => (ho6.out.lt g hg).1
        have hX7 := hd (hX6.out.set (i := 5) (by simp) (.slice a6 (j + 1) c6))
        have hO7 := hd (ho6.out.kept (grownBy_setCell w6 ⟨w.heap.size + 2 + 1, 5, none⟩ (.slice a6 (j + 1) c6)) (.inr (fun e => by have : w3.heap.size ≤ w.heap.size + 2 + 1 := hne6 _ e; omega)))
        have hS7 := hd (SepT.step hSep.out hbz (fun g hg => (hO.out.lt g hg).2) hb5.out hr5.out (w2 := w5.alloc (.cells #[.int .i64 p.of, .string p.name, .int .i64 p.no, .bool p.must, .int .i64 p.most, .slice a5 p.parts.length c5] 39)) (by simp) (below_a1 w5) hg6.out hv6.out (w4 := w6.setCell ⟨w.heap.size + 2 + 1, 5, none⟩ (.slice a6 (j + 1) c6)) rfl)
        have hG7 := hd (show w3.grownBy (w6.setCell ⟨w.heap.size + 2 + 1, 5, none⟩ (.slice a6 (j + 1) c6)) (some (w.heap.size + 2 + 1)) from grownBy_trans (grownBy_trans (grownBy_trans (grownBy_trans hG.out (below_grownBy hb5.out (some (w.heap.size + 2 + 1))) (.inl rfl)) (below_grownBy (below_a1 w5 (a := .cells #[.int .i64 p.of, .string p.name, .int .i64 p.no, .bool p.must, .int .i64 p.most, .slice a5 p.parts.length c5] 39)) (some (w.heap.size + 2 + 1))) (.inl rfl)) hg6.out (.inr (fun g hg => (hO5.out.lt g hg).1))) (grownBy_setCell w6 ⟨w.heap.size + 2 + 1, 5, none⟩ _) (.inl rfl))
        go_wp2_with fail
        go_roundw
        case rel => exact ⟨j + 1, .slice a6 (j + 1) c6, _, by omega, by go_num, hX7.out, hO7.out, by rw [htk.out]; exact hS7.out, hG7.out⟩
        case measure => simp [intOf]; omega
    · obtain rfl : j = ps.length := by omega
      have hltI : ¬ (ps.length : Int) < (ps.length : Int) := by omega
      rw [List.take_length] at hSep
      have y0 := hX.out.1 0 _ rfl; have y1 := hX.out.1 1 _ rfl; have y2 := hX.out.1 2 _ rfl; have y3 := hX.out.1 3 _ rfl; have y4 := hX.out.1 4 _ rfl; have y5 := hX.out.1 5 _ rfl
      have z0 := hXr4.out.1 0 _ rfl; have rz0 := hXr4.out.2.1 0; have z1 := hXr4.out.1 1 _ rfl; have rz1 := hXr4.out.2.1 1; have z2 := hXr4.out.1 2 _ rfl; have rz2 := hXr4.out.2.1 2; have z3 := hXr4.out.1 3 _ rfl; have rz3 := hXr4.out.2.1 3; have z4 := hXr4.out.1 4 _ rfl; have rz4 := hXr4.out.2.1 4; have z5 := hXr4.out.1 5 _ rfl; have rz5 := hXr4.out.2.1 5
      obtain ⟨aS, cS, rfl, _⟩ := hO.out.sl
      go_wp2_with fail
      have hGf := grownBy_setCells (w.heap.size + 1) [.int .i64 o, .string nm, .int .i64 no, .bool mu, .int .i64 mo, .slice aS rows.length cS] wo 0
      have hfin := hd (show RepT (setCells wo (w.heap.size + 1) 0 [.int .i64 o, .string nm, .int .i64 no, .bool mu, .int .i64 mo, .slice aS rows.length cS]) w.heap.size (setCells wo (w.heap.size + 1) 0 [.int .i64 o, .string nm, .int .i64 no, .bool mu, .int .i64 mo, .slice aS rows.length cS]).heap.size (.mk o nm no mu mo ps) [.int .i64 o, .string nm, .int .i64 no, .bool mu, .int .i64 mo, .slice aS rows.length cS] from by
        rw [RepT]
        exact ⟨.slice aS rows.length cS, rows, rfl, (RSl.own hO.out (fun g hg => (hO.out.lt g hg).2)).same (Same.grown hGf (Nat.le_refl _) (fun g hg => by cases hg; left; omega)) (by omega) hGf.size,
          RepTs.same (Same.grown hGf (Nat.le_refl _) (fun g hg => by cases hg; left; omega)) (by omega) hGf.size ps (fun p _ v hv => RepT.same (Same.grown hGf (Nat.le_refl _) (fun g hg => by cases hg; left; omega)) (by omega) hGf.size p v hv) rows (hSep.out.rep (B := w.heap.size + 2) (by omega))⟩)
      have hbelow := hd (show Below w.heap.size w (setCells wo (w.heap.size + 1) 0 [.int .i64 o, .string nm, .int .i64 no, .bool mu, .int .i64 mo, .slice aS rows.length cS]) from by
        have h1 : Below w.heap.size w wo := hB3.out.grown hG.out hB3.out.size (fun g hg => by cases hg; omega)
        exact h1.grown hGf h1.size (fun g hg => by cases hg; omega))
      refine bodyPost_ret (v := .agg #[.int .i64 o, .string nm, .int .i64 no, .bool mu, .int .i64 mo, .slice aS rows.length cS]) (by simp [results, Tryd.results12, go_sem, z0, z1, z2, z3, z4, z5]) rfl ⟨[.int .i64 o, .string nm, .int .i64 no, .bool mu, .int .i64 mo, .slice aS rows.length cS], rfl, hfin.out, hbelow.out⟩
end Go.Proofs.YtcepnifcfkgaeaaDoor
