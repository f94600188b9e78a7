/- NotFilter of the program and of the reference. -/
import Derived.Test.YtibmhnlmdabliaaFilterS
import Derived.Test.YtibmhnlmdabliaaApp
import Derived.Deep.RegionHeld3
import Derived.Deep.Cut
namespace Go.Proofs.Ytibmhnlmdabliaa
open Go.RowKit
set_option linter.unusedVariables false
set_option maxRecDepth 100000

def wNot (a : Int) : DWant := ⟨8, 0, 0, ⟨#[]⟩, a, 0⟩
def notL (l : List DWant) : List DWant := l ++ [wNot ((l.length : Int) - 1)]
def notRB (l : List DWant) : Bool := goodFilter l && decide (l.length + 1 ≤ 20)
def notR (l : List DWant) : List DWant := if notRB l then notL l else []
theorem good_len {l : List DWant} (h : goodFilter l = true) : 1 ≤ l.length ∧ l.length ≤ 20 := by
  simp only [goodFilter, Bool.and_eq_true, decide_eq_true_eq] at h
  exact h.1.1
theorem DWant.enc_one (l : List DWant) : ∀ u ∈ (l.map DWant.enc).flatten, u.oneCell' = true := by
  intro u hu
  obtain ⟨r, hr, hu⟩ := List.mem_flatten.1 hu
  obtain ⟨x, _, rfl⟩ := List.mem_map.1 hr
  simp only [DWant.enc, List.mem_cons, List.not_mem_nil, or_false] at hu
  rcases hu with rfl | rfl | rfl | rfl | rfl | rfl <;> rfl
set_option maxHeartbeats 800000 in
theorem clone_Want (l : List DWant) (v : Value) (w : World) (hl : l.length ≤ 1000000000) (h : Sl w v 6 (l.map DWant.enc)) :
    Calls Try.prog 66 #[v] w (OwnVPost 91 6 (l.map DWant.enc) w) := by
  obtain ⟨i0, hi, hz0, hz1, hz2⟩ := info_parts infoWant
  have Hi := hd hi; have Hz0 := hd hz0; have Hz1 := hd hz1; have Hz2 := hd hz2
  have hls := hd (DWant.enc_len l)
  have hone := hd (DWant.enc_one l)
  clear hi hz0 hz1 hz2
  have kn := fun (w : World) (a : Option Addr) (n c : Nat) => Lib.run_eql_slice_nil (P := Try.prog) w 26 91 a n c 0 0 Try.underlying26
  rcases h.open with ⟨a1, c1, rfl, hr⟩ | ⟨b1, o1, c1, rfl, hr, C1⟩
  · obtain rfl : l = [] := by simpa using hr
    cases a1 with
    | none =>
      go_enter Try.func66, Try.ntmps66
      go_wp2_with fail
      go_ret
      exact ⟨_, rfl, Own.nil, Below.refl _ _⟩
    | some a1 =>
      go_enter Try.func66, Try.ntmps66
      go_wp2_with (at_builtin; refine wpList_appOwn rfl (.tmp 5) (.tmp 6) 26 rfl w.heap.size 91 i0 _ 6 56 Try.underlying26 Hi.out Hz0.out Hz1.out Hz2.out rfl (by decide) _ [] [] rfl (own_made w 91 6) a1 0 c1 rfl rfl (by simp) (by simp) (by simp) (by simp) (by decide) (by simp) ?_; intro v2 w2 ho hg hb; replace ho := hd ho; replace hg := hd hg; clear hb)
      go_ret
      exact ⟨_, rfl, ho.out, below_made hg.out (by intro g hg; cases hg; exact Nat.le_refl _)⟩
  · have hC := hd ((C1.mono (below_a1 w (a := .cells #[] 91))).flat hls.out)
    clear h
    simp only [List.length_map]
    go_enter Try.func66, Try.ntmps66
    go_wp2_with (at_builtin; refine wpList_appOwn rfl (.tmp 5) (.tmp 6) 26 rfl w.heap.size 91 i0 _ 6 56 Try.underlying26 Hi.out Hz0.out Hz1.out Hz2.out rfl (by decide) _ [] (l.map DWant.enc) rfl (own_made w 91 6) ⟨b1, o1, none⟩ l.length c1 (by rw [List.length_map]) rfl hls.out hC.out hone.out (by simp; omega) (by decide) (by simp) ?_; intro v2 w2 ho hg hb; replace ho := hd ho; replace hg := hd hg; clear hb)
    go_ret
    exact ⟨_, rfl, ho.out, below_made hg.out (by intro g hg; cases hg; exact Nat.le_refl _)⟩
theorem filterOf_i (a : Option Addr) (n c : Nat) (w : World) (hn : n ≤ 1000000000000) (b : Bool) (hb : decide (n ≤ 20) = b) :
    Calls Try.prog 67 #[.slice a n c] w (fun e w' => e = .returned (.tuple #[.agg #[if b then .slice a n c else .slice none 0 0], .bool b]) ∧ Below w.heap.size w w') := by
  cases b with
  | true =>
    have hc : ¬ (20 : Int) < (n : Int) := by simp at hb; omega
    clear hb
    go_enter Try.func67, Try.ntmps67
    go_wp2_with fail
    exact bodyPost_ret (v := .tuple #[.agg #[.slice a n c], .bool true]) (by simp [results, Try.results67, go_sem]) rfl ⟨rfl, below_a1 _⟩
  | false =>
    have hc : (20 : Int) < (n : Int) := by simp at hb; omega
    clear hb
    go_enter Try.func67, Try.ntmps67
    go_wp2_with fail
    exact bodyPost_ret (v := .tuple #[.agg #[.slice none 0 0], .bool false]) (by simp [results, Try.results67, go_sem]) rfl ⟨rfl, below_a1 _⟩
end Go.Proofs.Ytibmhnlmdabliaa
