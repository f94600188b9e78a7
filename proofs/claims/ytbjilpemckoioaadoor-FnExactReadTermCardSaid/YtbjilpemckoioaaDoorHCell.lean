/- The marks of a slice of Cell: looked at. -/
import Derived.Test.YtbjilpemckoioaaDoorMCell
namespace Go.Proofs.YtbjilpemckoioaaDoor
open Go.RowKit
set_option linter.unusedVariables false
set_option maxRecDepth 100000

set_option maxHeartbeats 1600000 in
theorem heldCell (v : Value) (n : Nat) (k : Int) (w : World) (hk0 : 1 ≤ k) (hk1 : k ≤ 1000000000000) (hl : n ≤ 100000000000) (h : Sl w v 3 ((marksCell k n).map DCell.enc)) :
    Calls Tryd.prog 28 #[v, .int .i64 k] w (IntPost (k + 3 * n) w) := by
  have hml := marksCell_len k n
  obtain ⟨a1, c1, rfl, hr⟩ := h
  replace hr := hd hr
  simp only [List.length_map, marksCell_len]
  go_enter Tryd.func28, Tryd.ntmps28
  go_wp2_with fail
  go_loopw [1, 5] (fun q i wr => ∃ (j : Nat), j ≤ n ∧ i = .int .i64 j ∧ q = .int .i64 (k + 3 * j) ∧ Hd (Below w.heap.size w wr)) (fun _ i _ => n - (intOf i).toNat)
  case atStart => exact ⟨0, Nat.zero_le _, rfl, by simp, Below.refl _ _⟩
  case round =>
    obtain ⟨j, hj, rfl, rfl, hbl⟩ := hrel
    by_cases hlt : j < n
    · have hltI : (j : Int) < (n : Int) := by omega
      obtain ⟨b1, o1, rfl, C1⟩ : ∃ b o, a1 = some ⟨b, o, none⟩ ∧ Cells w b o 3 ((marksCell k n).map DCell.enc) := by
        rcases hr.out with h | ⟨b, o, e, C⟩
        · exfalso
          have h2 := congrArg List.length h
          rw [List.length_map, hml] at h2
          simp at h2; omega
        · exact ⟨b, o, e, C⟩
      obtain ⟨f0, f1, f2⟩ := Cells.rowCell (marksCell k n) j (by omega) (C1.mono hbl.out)
      rw [marksCell_at _ _ _ hlt] at f0 f1 f2
      have hq0 : 1 ≤ k + 3 * (j : Int) := by omega
      have hq1 : k + 3 * (j : Int) ≤ 2000000000000 := by omega
      have hend := hd (show k + 3 * (j : Int) + 3 = k + 3 * ((j + 1 : Nat) : Int) by omega)
      clear hml C1 hr
      generalize k + 3 * (j : Int) = q at *
      replace f0 : wr.cell? ⟨b1, o1 + j * 3, none⟩ = some (.int .i64 q) := f0
      replace f1 : wr.cell? ⟨b1, o1 + j * 3 + 1, none⟩ = some (.string (mkS (markT (q + 1)))) := f1
      replace f2 : wr.cell? ⟨b1, o1 + j * 3 + 2, none⟩ = some (.int .i64 (q + 1 + 1)) := f2
      go_wp2_with fail
      clear f0 
      go_region_held3 (fun w' => w'.cell? ⟨b1, o1 + j * 3 + 1, none⟩ = some (.string (mkS (markT (q + 1)))) ∧ w'.cell? ⟨b1, o1 + j * 3 + 2, none⟩ = some (.int .i64 (q + 1 + 1))) (first | go_keep | (go_split_ands; (repeat' apply And.intro) <;> exact keepCell hb (by assumption)) | exact keepCell hb (by assumption))
        (first | (go_at_call 40; refine (mText _ ((q + 1)) (by omega) (by omega)).mono ?_; rintro e w' ⟨rfl, hb⟩))
      have hbl9 := hd (hbl.out.next hb.drewL)
      clear hb
      go_wp2_with fail
      go_roundw
      case rel => exact ⟨j + 1, by omega, by go_num, by rw [← hend.out]; congr 1; omega, hbl9⟩
      case measure => simp [intOf]; omega
    · have : j = n := by omega
      subst this
      go_wp2_with fail
      go_ret
      exact ⟨rfl, hbl.out⟩
theorem heldTerm (v : Value) (n : Nat) (k : Int) (w : World) (hk0 : 1 ≤ k) (hk1 : k ≤ 1000000000000) (hl : n ≤ 100000000000) (h : Sl w v 3 ((marksCell k n).map DCell.enc)) :
    Calls Tryd.prog 13 #[.agg #[v], .int .i64 k] w (IntPost (k + 3 * n) w) := by
  have hk := hd h
  obtain ⟨a1, c1, rfl, _⟩ := h
  simp only [List.length_map, marksCell_len] at hk ⊢
  have hnn : ¬ k + 3 * (n : Int) < 0 := by omega
  go_enter Tryd.func13, Tryd.ntmps13
  go_wp2_with fail
  refine (heldCell _ n k _ hk0 hk1 hl (hk.out.mono (below_a1 _))).mono ?_
  rintro e w2 ⟨rfl, hb⟩
  have hb := hd hb.allocL
  go_wp2_with fail
  go_ret
  exact ⟨rfl, hb.out⟩
end Go.Proofs.YtbjilpemckoioaaDoor
