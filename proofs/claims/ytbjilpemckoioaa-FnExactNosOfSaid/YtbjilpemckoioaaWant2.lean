/- The walks of wantOK, parts and l7Want. -/
import Derived.Test.YtbjilpemckoioaaWantM
namespace Go.Proofs.Ytbjilpemckoioaa
open Go.RowKit
set_option linter.unusedVariables false
set_option maxRecDepth 100000
set_option maxHeartbeats 1600000 in
theorem wantOK_i (k no nu : Int) (t : ByteArray) (a b i : Int) (w : World) (hi0 : 0 ≤ i) (hi1 : i ≤ 1000000) :
    Calls Try.prog 132 #[.agg #[.int .i64 k, .int .i64 no, .int .i64 nu, .string t, .int .i64 a, .int .i64 b], .int .i64 i] w (BoolPost (decide (wantP k no nu t a b i)) w) := by
  have c1 := hd (fun w => testOK_same k nu t w)
  by_cases h1 : k = 6 ∨ k = 7 ∨ k = 8
  · rcases h1 with h1 | h1 | h1
    all_goals
      subst h1
      go_enter Try.func132, Try.ntmps132
      go_wp2_with (first | (go_at_call 123; refine (within_i _ _ _ _ _ rfl).mono ?_; rintro e w' ⟨rfl, rfl⟩))
      all_goals go_ret
      all_goals refine ⟨ret_bool ?_, below_a1 _⟩
      all_goals go_light
      all_goals (rw [Bool.eq_iff_iff]; simp_all [wantP, emptyS]; try omega)
  · have g1 : (k == 6) = false := by simp; omega
    have g2 : (k == 7) = false := by simp; omega
    have g3 : (k == 8) = false := by simp; omega
    clear h1
    go_enter Try.func132, Try.ntmps132
    go_wp2_with (first | (go_at_call 123; refine (within_i _ _ _ _ _ rfl).mono ?_; rintro e w' ⟨rfl, rfl⟩) | (go_at_call 155; refine (c1.out _).mono ?_; rintro e w' ⟨rfl, rfl⟩))
    all_goals go_ret
    all_goals refine ⟨ret_bool ?_, below_a1 _⟩
    all_goals go_light
    all_goals (rw [Bool.eq_iff_iff]; simp_all [wantP]; try omega)
set_option maxHeartbeats 1600000 in
theorem want_s (k no nu : Int) (t : ByteArray) (a b i : Int) (w : World) (hi0 : 0 ≤ i) (hi1 : i ≤ 1000000) :
    Calls Try.prog 130 #[.agg #[.int .i64 k, .int .i64 no, .int .i64 nu, .string t, .int .i64 a, .int .i64 b], .int .i64 i] w (BoolPost (decide (wantSP k no nu t a b i)) w) := by
  have c1 := hd (fun w => number_s nu w)
  cases hnb : numB nu with
  | false =>
    rw [hnb] at c1
    replace hnb := hd hnb
    go_enter Try.func130, Try.ntmps130
    go_wp2_with (first | (go_at_call 147; refine (c1.out _).mono ?_; rintro e w' ⟨rfl, rfl⟩) | (go_at_call 118; refine (within_s _ _ _ _ _ rfl).mono ?_; rintro e w' ⟨rfl, rfl⟩))
    all_goals go_ret
    all_goals refine ⟨ret_bool ?_, below_a1 _⟩
    all_goals go_light
    all_goals replace hnb := hnb.out
    all_goals (rw [Bool.eq_iff_iff]; simp_all [wantSP, emptyS]; try omega)
  | true =>
    rw [hnb] at c1
    replace hnb := hd hnb
    by_cases hk : 1 ≤ k ∧ k ≤ 5
    · obtain ⟨hk1, hk2⟩ := hk
      go_enter Try.func130, Try.ntmps130
      go_wp2_with (first | (go_at_call 147; refine (c1.out _).mono ?_; rintro e w' ⟨rfl, rfl⟩) | (go_at_call 118; refine (within_s _ _ _ _ _ rfl).mono ?_; rintro e w' ⟨rfl, rfl⟩))
      all_goals go_ret
      all_goals refine ⟨ret_bool ?_, below_a1 _⟩
      all_goals go_light
      all_goals replace hnb := hnb.out
      all_goals (rw [Bool.eq_iff_iff]; simp_all [wantSP, emptyS]; try omega)
    · have hk' : k < 1 ∨ 5 < k := by omega
      go_enter Try.func130, Try.ntmps130
      go_wp2_with (first | (go_at_call 147; refine (c1.out _).mono ?_; rintro e w' ⟨rfl, rfl⟩) | (go_at_call 118; refine (within_s _ _ _ _ _ rfl).mono ?_; rintro e w' ⟨rfl, rfl⟩))
      all_goals go_ret
      all_goals refine ⟨ret_bool ?_, below_a1 _⟩
      all_goals go_light
      all_goals replace hnb := hnb.out
      all_goals (rw [Bool.eq_iff_iff]; simp_all [wantSP, emptyS]; try omega)
def PartsPost (l : List Int) (w : World) (e : Ending) (w' : World) : Prop := ∃ v, e = .returned v ∧ Sl w' v 1 (l.map encI) ∧ Below w.heap.size w w' ∧ ∀ g, v.ownBlock = some g → w.heap.size ≤ g
theorem Sl_new (W : World) (l : List Int) (T g : Nat) (hg : W.heap.size = g) (hl : l ≠ []) : Sl (W.alloc (.cells (l.map (Value.int .i64)).toArray T)) (.slice (some ⟨g, 0, none⟩) l.length l.length) 1 (l.map encI) := by
  subst hg
  refine ⟨_, l.length, by rw [List.length_map], .inr ⟨W.heap.size, 0, rfl, by simp, ?_⟩⟩
  intro i r hr j u hu
  rw [List.getElem?_map] at hr
  cases hx : l[i]? with
  | none => rw [hx] at hr; simp at hr
  | some x =>
    rw [hx] at hr
    simp at hr
    subst hr
    have hj : j = 0 := by have := (List.getElem?_eq_some_iff.1 hu).1; simp [encI] at this; exact this
    subst hj
    simp [encI] at hu
    subst hu
    rw [World.cell?, heap_alloc_new]
    simp [hx]
set_option maxHeartbeats 400000 in
theorem parts_i (x : DWant) (w : World) :
    Calls Try.prog 133 #[.agg #[.int .i64 x.kind, .int .i64 x.no, .int .i64 x.num, .string x.text, .int .i64 x.a, .int .i64 x.b]] w (PartsPost (partsL x) w) := by
  by_cases h1 : x.kind = 6 ∨ x.kind = 7
  · have hp := hd (show partsL x = [x.a, x.b] by rw [partsL, if_pos h1])
    by_cases h6 : x.kind = 6
    · have g6 : (x.kind == 6) = true := by simpa using h6
      clear h1 h6
      go_enter Try.func133, Try.ntmps133
      go_wp2_with fail
      go_ret
      refine ⟨.slice (some ⟨w.heap.size + 1, 0, none⟩) 2 2, rfl, ?_, below_a2 _, ?_⟩
      · rw [hp.out]; exact Sl_new _ [x.a, x.b] _ _ (by simp) (by simp)
      · intro g hg; simp [Value.ownBlock] at hg; omega
    · have g6 : (x.kind == 6) = false := by simpa using h6
      have g7 : (x.kind == 7) = true := by simp; omega
      clear h1 h6
      go_enter Try.func133, Try.ntmps133
      go_wp2_with fail
      go_ret
      refine ⟨.slice (some ⟨w.heap.size + 1, 0, none⟩) 2 2, rfl, ?_, below_a2 _, ?_⟩
      · rw [hp.out]; exact Sl_new _ [x.a, x.b] _ _ (by simp) (by simp)
      · intro g hg; simp [Value.ownBlock] at hg; omega
  · have g6 : (x.kind == 6) = false := by simp; omega
    have g7 : (x.kind == 7) = false := by simp; omega
    by_cases h8 : x.kind = 8
    · have hp := hd (show partsL x = [x.a] by rw [partsL, if_neg h1, if_pos h8])
      have g8 : (x.kind == 8) = true := by simpa using h8
      clear h1 h8
      go_enter Try.func133, Try.ntmps133
      go_wp2_with fail
      go_ret
      refine ⟨.slice (some ⟨w.heap.size + 1, 0, none⟩) 1 1, rfl, ?_, below_a2 _, ?_⟩
      · rw [hp.out]; exact Sl_new _ [x.a] _ _ (by simp) (by simp)
      · intro g hg; simp [Value.ownBlock] at hg; omega
    · have hp := hd (show partsL x = [] by rw [partsL, if_neg h1, if_neg h8])
      have g8 : (x.kind == 8) = false := by simpa using h8
      clear h1 h8
      go_enter Try.func133, Try.ntmps133
      go_wp2_with fail
      go_ret
      refine ⟨.slice none 0 0, rfl, ?_, below_a1 _, ?_⟩
      · rw [hp.out]; exact ⟨none, 0, rfl, .inl rfl⟩
      · intro g hg; simp [Value.ownBlock] at hg
end Go.Proofs.Ytbjilpemckoioaa
