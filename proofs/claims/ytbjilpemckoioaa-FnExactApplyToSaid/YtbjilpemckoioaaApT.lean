/- A tree as a term: term of the program, l6Of of the reference. -/
import Derived.Test.YtbjilpemckoioaaApI
namespace Go.Proofs.Ytbjilpemckoioaa
open Go.RowKit
set_option linter.unusedVariables false
set_option maxRecDepth 100000
theorem ownR_storeA {w : World} {b o B B2 E sz : Nat} {v u : Value} {rows : List (List Value)} {rb : Option Nat} (h : OwnR w B E sz v rows rb) (hB : B2 ≤ B) (hb : b < B) : OwnR (w.setCell ⟨b, o, none⟩ u) B2 E sz v rows rb := by
  have h2 := h.kept (grownBy_setCell w ⟨b, o, none⟩ u) (by
    cases hrb : rb with
    | none => exact .inl rfl
    | some g => right; intro e; have := (h.lt g hrb).1; have e2 : g = b := Option.some.inj e; omega)
  rcases h2 with ⟨g1, g2⟩ | g
  · exact .inl ⟨g1, g2.weaken hB⟩
  · exact .inr g
theorem AggbPost.ofA {E : TypeId} {sz : Nat} {rows : List (List Value)} {b : Bool} {w w' : World} {v : Value} {rb : Option Nat} (h1 : OwnR w' w.heap.size E sz v rows rb) (h2 : Below w.heap.size w w') : AggbPost E sz rows b w (.returned (.tuple #[.agg #[v], .bool b])) w' := ⟨v, rb, rfl, h1, h2⟩
set_option maxHeartbeats 1600000 in
theorem term_i (t : K) (v : Value) (w : World) (S : Nat → Prop) (hSw : ∀ q, S q → q < w.heap.size) (hc : countK t ≤ 1000000) (h : RepY HT w S t v) (r : List DCell) (b : Bool) (hr : (if countK t ≤ 30 then (flK t, true) else ([], false)) = (r, b)) :
    Calls Try.prog 64 #[v] w (AggbPost 163 3 (r.map DCell.enc) b w) := by
  have cz := hd (fun w' (hw : Below w.heap.size w w') => size_i t v w' S (fun q h => Nat.lt_of_lt_of_le (hSw q h) hw.size) hc (RepY.same (SameS.below hw hSw) (fun _ h => h) _ _ h))
  obtain ⟨bp, _, _, _, rfl, hjk⟩ := h.open
  by_cases h30 : countK t ≤ 30
  · rw [if_pos h30] at hr
    obtain ⟨hr1, rfl⟩ : flK t = r ∧ b = true := by cases hr; exact ⟨rfl, rfl⟩
    have hI : ¬ (30 : Int) < ((countK t : Nat) : Int) := by omega
    have cc := hd (fun w' (hw : Below w.heap.size w w') => cells_i t _ [] (.slice none 0 0) w' S w'.heap.size (fun q h => Nat.lt_of_lt_of_le (hSw q h) hw.size) (Nat.le_refl _) (by simp; omega) (RepY.same (SameS.below hw hSw) (fun _ h => h) _ _ h) Own.nil)
    rw [List.nil_append, hr1] at cc
    have hrl : r.length ≤ 30 := by rw [← hr1, flK_len]; exact h30
    clear h hjk hSw hr1 hr
    generalize countK t = n at *
    go_enter Try.func64, Try.ntmps64
    go_wp2_with fail
    refine (cz.out _ (below_a1 _)).mono ?_
    rintro e w2 ⟨rfl, hb2⟩
    have hx2 := hd (Box1.below (b := w.heap.size) (v := .slice none 0 0) ⟨by go_simp, by go_simp⟩ hb2)
    have hB := hd ((below_a1 w).next hb2)
    have hz2 : w.heap.size + 1 ≤ w2.heap.size := by have := hb2.size; simp at this; omega
    clear hb2
    go_wp2_with fail
    refine (cc.out _ hB.out).mono ?_
    rintro e w3 ⟨v3, rfl, ho3, hG3⟩
    have hB23 := hd (hG3.below (B := w2.heap.size) (Nat.le_refl _) (by intro g hg; cases hg))
    have hx3 := hd (hx2.out.below hB23.out)
    have hB3 := hd (hB.out.next hB23.out)
    obtain ⟨a3, c3, rfl, hjk⟩ := ho3.sl
    clear hjk
    simp only [List.length_map] at ho3 ⊢
    have Q1 := hx3.out.1; have Q2 := hx3.out.2
    replace ho3 := hd ho3
    clear hG3
    go_wp2_with fail
    exact bodyPost_ret (v := .tuple #[.agg #[.slice a3 r.length c3], .bool true]) (by simp [results, Try.results64, go_sem, Q1]) rfl (AggbPost.ofA (rb := (Value.slice a3 r.length c3).ownBlock) (ownR_storeA ho3.out.r (by omega) (by omega)) (hB3.out.setCell (by simp) _))
  · rw [if_neg h30] at hr
    obtain ⟨rfl, rfl⟩ : r = [] ∧ b = false := by cases hr; exact ⟨rfl, rfl⟩
    have hI : (30 : Int) < ((countK t : Nat) : Int) := by omega
    clear h hjk hSw hr
    generalize countK t = n at *
    go_enter Try.func64, Try.ntmps64
    go_wp2_with fail
    refine (cz.out _ (below_a1 _)).mono ?_
    rintro e w2 ⟨rfl, hb2⟩
    have hx2 := Box1.below (b := w.heap.size) (v := .slice none 0 0) ⟨by go_simp, by go_simp⟩ hb2
    have Q1 := hx2.1; have Q2 := hx2.2
    have hB := hd ((below_a1 w).next hb2)
    clear hb2 hx2
    go_wp2_with fail
    refine bodyPost_ret (v := .tuple #[.agg #[.slice none 0 0], .bool false]) (by simp [results, Try.results64, go_sem, Q1]) rfl ⟨_, none, rfl, OwnR.nil, ?_⟩
    exact hB.out.setCell (by simp) _
end Go.Proofs.Ytbjilpemckoioaa
