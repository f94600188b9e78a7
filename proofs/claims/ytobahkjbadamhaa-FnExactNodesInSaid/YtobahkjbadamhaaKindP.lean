/- The reference on flat lists of types: l2Around, l2Kids, l2Part. -/
import Derived.Test.YtobahkjbadamhaaKindB
import Derived.Test.YtobahkjbadamhaaInt
import Derived.Test.YtobahkjbadamhaaCommon
namespace Go.Proofs.Ytobahkjbadamhaa
open Go.RowKit
set_option linter.unusedVariables false
set_option maxRecDepth 100000
theorem rows_at {w : World} {a : Option Addr} {sz k : Nat} {rows : List (List Value)} (h : rows = [] ∨ ∃ b o, a = some ⟨b, o, none⟩ ∧ b < w.heap.size ∧ ∀ i r, rows[i]? = some r → ∀ j u, r[j]? = some u → w.cell? ⟨b, o + i * sz + j, none⟩ = some u) (hk : k < rows.length) :
    ∃ b o, a = some ⟨b, o, none⟩ ∧ Cells w b o sz rows := by
  rcases h with h | ⟨b, o, e, C⟩
  · rw [h] at hk; simp at hk
  · exact ⟨b, o, e, C⟩
theorem Anc.inv {l : List DType} {j q : Nat} (h : Anc l j q) : j = q ∨ ∃ p, U l j = (p : Nat) ∧ Anc l p q := by
  cases h with
  | refl => exact .inl rfl
  | up _ p _ h1 h2 => exact .inr ⟨p, h1, h2⟩
set_option maxHeartbeats 1600000 in
theorem around_s (l : List DType) (b1 o1 c i : Nat) (w : World) (hl : l.length ≤ 1000000) (C : Cells w b1 o1 6 (l.map DType.enc)) (hi0 : 0 < i) (hi : i < l.length) (hw : ∀ k, k < i → U l k < (k : Int)) (r : Bool) (hr : r = true ↔ ∃ q : Nat, U l i = (q : Int) ∧ Anc l (i - 1) q) :
    Calls Try.prog 128 #[.slice (some ⟨b1, o1, none⟩) l.length c, .int .i64 i] w (fun e w' => e = .returned (.bool r) ∧ w = w') := by
  have hC := hd C
  have hiI : (i : Int) < (l.length : Int) := by omega
  obtain ⟨f0, f1, f2, f3, f4, f5⟩ := Cells.rowType l i hi C
  have hUi := hd (U_at hi)
  generalize hui : l[i].up = ui at *
  have hw := hd hw
  have hr := hd hr
  have hw1 : IntKind.i64.wrap ((i : Int) - 1) = ((i - 1 : Nat) : Int) := by rw [IntWalk.i64_in _ (by omega)]; omega
  clear f0 f1 f2 f3 f5 C hui
  go_enter Try.func128, Try.ntmps128
  go_wp2_with fail
  go_loop [5] (fun n => ∃ m : Int, n = .int .i64 m ∧ m < i ∧ Hd (r = true ↔ ∃ j : Nat, m = (j : Int) ∧ ∃ q : Nat, U l i = (q : Int) ∧ Anc l j q)) (fun n => (intOf n + 1).toNat)
  case atStart =>
    refine ⟨((i - 1 : Nat) : Int), rfl, by omega, ?_⟩
    show r = true ↔ _
    rw [hr.out]
    constructor
    · intro h; exact ⟨i - 1, rfl, h⟩
    · rintro ⟨j, hj, h⟩
      have : j = i - 1 := by omega
      subst this; exact h
  case round =>
    obtain ⟨m, rfl, hm, hrel⟩ := hrel
    by_cases h0 : 0 ≤ m
    · obtain ⟨j, rfl⟩ := Int.eq_ofNat_of_zero_le h0
      have hjl : j < l.length := by omega
      have hjI : (j : Int) < (l.length : Int) := by omega
      have hj0 : (0 : Int) ≤ (j : Int) := by omega
      obtain ⟨g0, g1, g2, g3, g4, g5⟩ := Cells.rowType l j hjl hC.out
      have hUj := hd (U_at hjl)
      have hlt := hw.out j (by omega)
      rw [hUj.out] at hlt
      generalize l[j].up = uj at *
      clear g0 g1 g2 g3 g5 h0
      by_cases he : (j : Int) = ui
      · have hres := hd (show r = true from hrel.out.2 ⟨j, rfl, j, by rw [hUi.out, ← he], .refl j⟩)
        clear hlt
        subst he
        go_wp2_with fail
        go_ret
        exact ⟨by rw [hres.out]; rfl, rfl⟩
      · have heb : ((j : Int) == ui) = false := by simpa using he
        have hrel2 := hd (show r = true ↔ ∃ k : Nat, uj = (k : Int) ∧ ∃ q : Nat, U l i = (q : Int) ∧ Anc l k q by
          rw [hrel.out]
          constructor
          · rintro ⟨j', h1, q, h2, h3⟩
            have : j' = j := by omega
            subst this
            rcases h3.inv with h4 | ⟨p, h4, h5⟩
            · exfalso; rw [hUi.out] at h2; omega
            · exact ⟨p, by rw [← hUj.out]; exact h4, q, h2, h5⟩
          · rintro ⟨k, h1, q, h2, h3⟩
            exact ⟨j, rfl, q, h2, .up j k q (by rw [hUj.out]; exact h1) h3⟩)
        have hlt2 := hd hlt
        clear he hlt
        go_wp2_with fail
        go_round
        case rel => exact ⟨uj, rfl, by have := hlt2.out; omega, hrel2⟩
        case measure => have := hlt2.out; simp [intOf]; omega
    · have hres := hd (show r = false by
        rw [← Bool.not_eq_true, hrel.out]; rintro ⟨j, h1, _⟩; omega)
      have h0I : ¬ (0 : Int) ≤ m := h0
      go_wp2_with fail
      go_ret
      exact ⟨by rw [hres.out]; rfl, rfl⟩
def encN (n : Nat) : List Value := encI (n : Int)
def KidsPost (l : List DType) (k : Nat) (w : World) (e : Ending) (w' : World) : Prop := ∃ v, e = .returned v ∧ Own w' w.heap.size 3 1 v ((kidsOf l k).map encN) ∧ Below w.heap.size w w'
theorem encN_one (n : Nat) : ∀ u ∈ [encN n].flatten, u.oneCell' = true := by
  intro u hu; simp [encN, encI] at hu; subst hu; rfl
set_option maxHeartbeats 1600000 in
theorem kids_s (l : List DType) (v : Value) (k : Nat) (w : World) (hl : l.length ≤ 1000000) (h : Sl w v 6 (l.map DType.enc)) (hk : k < l.length) :
    Calls Try.prog 94 #[.agg #[v], .int .i64 k] w (KidsPost l k w) := by
  have hS := hd h
  obtain ⟨a1, c1, rfl, hrr⟩ := h
  have hrr := hd hrr
  simp only [List.length_map]
  obtain ⟨i0, hi, hz0, hz1, hz2⟩ := info_parts infoInt
  have Hi := hd hi; have Hz0 := hd hz0; have Hz1 := hd hz1; have Hz2 := hd hz2
  clear hi hz0 hz1 hz2
  have hw1 : IntKind.i64.wrap ((k : Int) + 1) = ((k + 1 : Nat) : Int) := by rw [IntWalk.i64_in _ (by omega)]; omega
  have hq := hd (show (w.alloc (.cells #[.slice a1 l.length c1] 28)).cell? ⟨w.heap.size, 0, none⟩ = some (.slice a1 l.length c1) by go_simp)
  obtain ⟨W, hW⟩ : ∃ W, W = w.alloc (.cells #[.slice a1 l.length c1] 28) := ⟨_, rfl⟩
  have hbW := hd (show Below w.heap.size w W by rw [hW]; exact below_a1 w)
  have hsW : W.heap.size = w.heap.size + 1 := by rw [hW]; simp
  rw [← hW] at hq
  go_enter Try.func94, Try.ntmps94
  go_upto_region 1 with (fail)
  rw [← hW]
  clear hW
  go_wp2_with fail
  go_loopw [5, 6] (fun s n wr => ∃ (i : Nat) (acc : List Nat), n = .int .i64 i ∧ (k < i ∧ i ≤ l.length) ∧ Hd (acc ++ seg l k i = kidsOf l k) ∧ Hd (acc.length ≤ i) ∧ Hd (Own wr (w.heap.size + 1) 3 1 s (acc.map encN)) ∧ Hd (Below (w.heap.size + 1) W wr)) (fun _ n _ => l.length - (intOf n).toNat)
  case atStart => exact ⟨k + 1, [], by go_num, by omega, rfl, Nat.zero_le _, Own.nil, Below.refl _ _⟩
  case round =>
    obtain ⟨i, acc, rfl, ⟨hki, hil⟩, hacc, hal, hO, hbl⟩ := hrel
    obtain ⟨wo, rfl⟩ : ∃ wo : World, wo = wr := ⟨_, rfl⟩
    have q := (show wo.cell? ⟨w.heap.size, 0, none⟩ = some (.slice a1 l.length c1) from by rw [hbl.out.cell (by simp)]; exact hq.out)
    have hbw := hd (show Below w.heap.size w wo from hbW.out.trans (hbl.out.mono (by omega)))
    by_cases hlt : i < l.length
    · have hltI : (i : Int) < (l.length : Int) := by omega
      obtain ⟨b1, o1, rfl, C1⟩ := rows_at hrr.out (k := i) (by rw [List.length_map]; exact hlt)
      obtain ⟨g0, g1, g2, g3, g4, g5⟩ := Cells.rowType l i hlt (C1.mono hbw.out)
      have hUi := U_at hlt
      have hseg := seg_cons (a := k) hlt
      rw [hUi] at hseg
      generalize l[i].up = ui at *
      replace hUi := hd hUi
      clear g0 g1 g2 g3 g5
      by_cases hu : ui = (k : Int)
      · have hacc2 := hd (show (acc ++ [i]) ++ seg l k (i + 1) = kidsOf l k by rw [← hacc.out, hseg, if_pos hu]; simp)
        subst hu
        replace hseg := hd hseg
        have hal9 := hal.out
        go_wp2_with (at_builtin; refine wpList_appOwn rfl (.tmp 24) (.tmp 26) 63 rfl (w.heap.size + 1) 3 i0 _ 1 8 Try.underlying63 Hi.out Hz0.out Hz1.out Hz2.out rfl (by decide) _ (acc.map encN) [encN i] rfl (hO.out.below (below_a1 _)) _ 1 1 rfl rfl (one_row rfl) (cells_new _ _ _) (encN_one i) (by rw [List.length_map]; omega) (by decide) (by have := hbl.out.size; simp; omega) ?_; intro s6 w6 ho6 hg6 hv6; have hB6 := hd ((show Below (w.heap.size + 1) W _ from hbl.out.trans ((below_a1 wo).mono (by have := hbl.out.size; omega))).grown hg6 (by have := hbl.out.size; simp; omega) (fun g hg => (hO.out.lt g hg).1)); have ho7 := hd (show Own w6 (w.heap.size + 1) 3 1 s6 ((acc ++ [i]).map encN) from by rw [List.map_append]; exact ho6); clear hg6 hv6 ho6)
        go_roundw
        case rel => exact ⟨i + 1, acc ++ [i], by go_num, by omega, hacc2, by rw [Hd]; simp; exact hal.out, ho7, hB6⟩
        case measure => simp [intOf]; omega
      · have hub : (ui == (k : Int)) = false := by simpa using hu
        have hacc2 := hd (show acc ++ seg l k (i + 1) = kidsOf l k by rw [← hacc.out, hseg, if_neg hu])
        clear hu hseg
        have hal2 := hd (show acc.length ≤ i + 1 from Nat.le_succ_of_le hal.out)
        go_wp2_with fail
        go_roundw
        case rel => exact ⟨i + 1, acc, by go_num, by omega, hacc2, hal2, hO, hbl⟩
        case measure => simp [intOf]; omega
    · obtain rfl : i = l.length := by omega
      have hltI : ¬ (l.length : Int) < (l.length : Int) := by omega
      have hfin := hd (show acc = kidsOf l k by rw [← hacc.out, seg_end (Nat.le_refl _), List.append_nil])
      go_wp2_with fail
      go_ret
      exact ⟨_, rfl, by rw [← hfin.out]; exact hO.out.weaken (by omega), hbw.out⟩
end Go.Proofs.Ytobahkjbadamhaa
