/- The reference on values: l4Kids. -/
import Derived.Test.YtobahkjbadamhaaFitM
import Derived.Test.YtobahkjbadamhaaDefS
namespace Go.Proofs.Ytobahkjbadamhaa
open Go.RowKit
set_option linter.unusedVariables false
set_option maxRecDepth 100000
set_option maxHeartbeats 1600000 in
theorem kidsV_s (l : List DNode) (v : Value) (k : Nat) (w : World) (hl : l.length ≤ 1000000) (h : Sl w v 5 (l.map DNode.enc)) (hk : k < l.length) :
    Calls Try.prog 111 #[.agg #[v], .int .i64 k] w (KidsPost (trees l) k w) := by
  have hS := hd h
  obtain ⟨a1, c1, rfl, hrr⟩ := h
  have hrr := hd hrr
  simp only [List.length_map]
  obtain ⟨i0, hi, hz0, hz1, hz2⟩ := info_parts infoInt
  have Hi := hd hi; have Hz0 := hd hz0; have Hz1 := hd hz1; have Hz2 := hd hz2
  clear hi hz0 hz1 hz2
  have hw1 : IntKind.i64.wrap ((k : Int) + 1) = ((k + 1 : Nat) : Int) := by rw [IntWalk.i64_in _ (by omega)]; omega
  have hq := hd (show (w.alloc (.cells #[.slice a1 l.length c1] 39)).cell? ⟨w.heap.size, 0, none⟩ = some (.slice a1 l.length c1) by go_simp)
  obtain ⟨W, hW⟩ : ∃ W, W = w.alloc (.cells #[.slice a1 l.length c1] 39) := ⟨_, rfl⟩
  have hbW := hd (show Below w.heap.size w W by rw [hW]; exact below_a1 w)
  have hsW : W.heap.size = w.heap.size + 1 := by rw [hW]; simp
  rw [← hW] at hq
  go_enter Try.func111, Try.ntmps111
  go_upto_region 1 with (fail)
  rw [← hW]
  clear hW
  go_wp2_with fail
  go_loopw [5, 6] (fun s n wr => ∃ (i : Nat) (acc : List Nat), n = .int .i64 i ∧ (k < i ∧ i ≤ l.length) ∧ Hd (acc ++ seg (trees l) k i = kidsOf (trees l) k) ∧ Hd (acc.length ≤ i) ∧ Hd (Own wr (w.heap.size + 1) 3 1 s (acc.map encN)) ∧ Hd (Below (w.heap.size + 1) W wr)) (fun _ n _ => l.length - (intOf n).toNat)
  case atStart => exact ⟨k + 1, [], by go_num, by omega, rfl, Nat.zero_le _, Own.nil, Below.refl _ _⟩
  case round =>
    obtain ⟨i, acc, rfl, ⟨hki, hil⟩, hacc, hal, hO, hbl⟩ := hrel
    obtain ⟨wo, rfl⟩ : ∃ wo : World, wo = wr := ⟨_, rfl⟩
    have q := (show wo.cell? ⟨w.heap.size, 0, none⟩ = some (.slice a1 l.length c1) from by rw [hbl.out.cell (by simp)]; exact hq.out)
    have hbw := hd (show Below w.heap.size w wo from hbW.out.trans (hbl.out.mono (by omega)))
    by_cases hlt : i < l.length
    · have hltI : (i : Int) < (l.length : Int) := by omega
      obtain ⟨b1, o1, rfl, C1⟩ := rows_at hrr.out (k := i) (by rw [List.length_map]; exact hlt)
      obtain ⟨g0, g1, g2, g3, g4⟩ := Cells.rowNode l i hlt (C1.mono hbw.out)
      have hUi := UN_at hlt
      have hseg := seg_cons (l := trees l) (a := k) (by rw [trees_len]; exact hlt)
      rw [hUi] at hseg
      generalize l[i].up = ui at *
      replace hUi := hd hUi
      clear g0 g1 g2 g4
      by_cases hu : ui = (k : Int)
      · have hacc2 := hd (show (acc ++ [i]) ++ seg (trees l) k (i + 1) = kidsOf (trees l) k by rw [← hacc.out, hseg, if_pos hu]; simp)
        subst hu
        replace hseg := hd hseg
        have hal9 := hal.out
        go_wp2_with (at_builtin; refine wpList_appOwn rfl (.tmp 24) (.tmp 26) 63 rfl (w.heap.size + 1) 3 i0 _ 1 8 Try.underlying63 Hi.out Hz0.out Hz1.out Hz2.out rfl (by decide) _ (acc.map encN) [encN i] rfl (hO.out.below (below_a1 _)) _ 1 1 rfl rfl (one_row rfl) (cells_new _ _ _) (encN_one i) (by rw [List.length_map]; omega) (by decide) (by have := hbl.out.size; simp; omega) ?_; intro s6 w6 ho6 hg6 hv6; have hB6 := hd ((show Below (w.heap.size + 1) W _ from hbl.out.trans ((below_a1 wo).mono (by have := hbl.out.size; omega))).grown hg6 (by have := hbl.out.size; simp; omega) (fun g hg => (hO.out.lt g hg).1)); have ho7 := hd (show Own w6 (w.heap.size + 1) 3 1 s6 ((acc ++ [i]).map encN) from by rw [List.map_append]; exact ho6); clear hg6 hv6 ho6)
        go_roundw
        case rel => exact ⟨i + 1, acc ++ [i], by go_num, by omega, hacc2, by rw [Hd]; simp; exact hal.out, ho7, hB6⟩
        case measure => simp [intOf]; omega
      · have hub : (ui == (k : Int)) = false := by simpa using hu
        have hacc2 := hd (show acc ++ seg (trees l) k (i + 1) = kidsOf (trees l) k by rw [← hacc.out, hseg, if_neg hu])
        clear hu hseg
        have hal2 := hd (show acc.length ≤ i + 1 from Nat.le_succ_of_le hal.out)
        go_wp2_with fail
        go_roundw
        case rel => exact ⟨i + 1, acc, by go_num, by omega, hacc2, hal2, hO, hbl⟩
        case measure => simp [intOf]; omega
    · obtain rfl : i = l.length := by omega
      have hltI : ¬ (l.length : Int) < (l.length : Int) := by omega
      have hfin := hd (show acc = kidsOf (trees l) k by rw [← hacc.out, seg_end (by rw [trees_len]; exact Nat.le_refl _), List.append_nil])
      go_wp2_with fail
      go_ret
      exact ⟨_, rfl, by rw [← hfin.out]; exact hO.out.weaken (by omega), hbw.out⟩
end Go.Proofs.Ytobahkjbadamhaa
