/- TermText of both sides. -/
import Derived.Test.YtbjilpemckoioaaDoorTxtS
namespace Go.Proofs.YtbjilpemckoioaaDoor
open Go.RowKit
set_option linter.unusedVariables false
set_option maxRecDepth 100000
/-- What TermText answers. -/
def ttR (l : List DCell) : List UInt8 × Bool := match termT l with
  | some t => (txK t, true)
  | none => ([], false)
theorem ttR_n {l : List DCell} (h : termT l = none) : ttR l = ([], false) := by rw [ttR, h]
theorem ttR_s {l : List DCell} {t : K} (h : termT l = some t) : ttR l = (txK t, true) := by rw [ttR, h]
theorem termT_good' {l : List DCell} {t : K} (h : termT l = some t) : countK t ≤ 30 ∧ TmOk t := by
  obtain ⟨h1, h2⟩ := termT_some h
  have h3 := rdT_count _ _ _ _ h2
  rw [List.length_nil] at h3
  exact ⟨by omega, rdT_ok _ _ _ _ h2⟩
theorem ttR_len (l : List DCell) : (ttR l).1.length ≤ 1000 := by
  cases h : termT l with
  | none => rw [ttR_n h]; simp
  | some t =>
    rw [ttR_s h]
    have h1 := termT_good' h
    have h2 := txK_len h1.2
    show (txK t).length ≤ 1000
    omega
def TbPost (r : List UInt8) (b : Bool) (w : World) (e : Ending) (w' : World) : Prop := e = .returned (.tuple #[.string (mkS r), .bool b]) ∧ Below w.heap.size w w'
set_option maxHeartbeats 1600000 in
theorem TermText_i (l : List DCell) (v : Value) (w : World) (hl : l.length ≤ 1000000000) (hnm : ∀ x ∈ l, x.name.size ≤ 1000000000000) (hcap : ∀ a n c, v = .slice a n c → n ≤ c) (hS : Sl w v 3 (l.map DCell.enc)) (r : List UInt8) (b : Bool) (hr : ttR l = (r, b)) :
    Calls Tryd.prog 8 #[.agg #[v]] w (TbPost r b w) := by
  have hS0 := hS
  obtain ⟨a, c, rfl, hjk⟩ := hS
  clear hjk
  have hc := hcap _ _ _ rfl
  rw [List.length_map] at *
  have ct := hd (fun w' (hb : Below w.heap.size w w') => treeOf_i l a c w' hl hc hnm (hS0.mono hb))
  replace hr := hd hr
  clear hS0 hnm hcap
  cases hT : termT l with
  | none =>
    rw [hT] at ct
    obtain ⟨rfl, rfl⟩ : r = [] ∧ b = false := by have := hr.out; rw [ttR_n hT] at this; cases this; exact ⟨rfl, rfl⟩
    go_enter Tryd.func8, Tryd.ntmps8
    go_wp2_with fail
    refine (ct.out _ (below_a1 _)).mono ?_
    intro e w2 hp
    obtain ⟨rfl, hb2⟩ := ToPost_n hp
    have hB := hd ((below_a1 _).next hb2)
    clear hp hb2
    go_wp2_with fail
    go_ret2
    exact ⟨rfl, hB.out⟩
  | some t =>
    rw [hT] at ct
    have hg := termT_good' hT
    obtain ⟨hr1, rfl⟩ : txK t = r ∧ b = true := by have := hr.out; rw [ttR_s hT] at this; cases this; exact ⟨rfl, rfl⟩
    have cx := hd (fun v w' S hS hA => text_i t v w' S hS (by omega) hg.2 hA)
    rw [hr1] at cx
    clear hg hr hr1
    go_enter Tryd.func8, Tryd.ntmps8
    go_wp2_with fail
    refine (ct.out _ (below_a1 _)).mono ?_
    intro e w2 hp
    obtain ⟨bp, rfl, hR, hb2⟩ := ToPost_s hp
    have hB := hd ((below_a1 _).next hb2)
    have cy := hd (cx.out _ _ _ (fun q h => h.2) hR)
    clear hp hb2 hR
    go_wp2_with fail
    refine cy.out.mono ?_
    rintro e w3 ⟨rfl, hb3⟩
    have hB3 := hd (hB.out.next hb3)
    clear hb3
    go_wp2_with fail
    go_ret2
    exact ⟨rfl, hB3.out⟩
set_option maxHeartbeats 1600000 in
theorem TermText_s (l : List DCell) (v : Value) (w : World) (hl : l.length ≤ 1000000000) (hnm : ∀ x ∈ l, x.name.size ≤ 1000000000000) (hS : Sl w v 3 (l.map DCell.enc)) (r : List UInt8) (b : Bool) (hr : ttR l = (r, b)) :
    Calls Tryd.prog 6 #[.agg #[v]] w (TbPost r b w) := by
  have hS0 := hS
  obtain ⟨a, c, rfl, hjk⟩ := hS
  clear hjk
  rw [List.length_map] at *
  have ct := hd (fun w' (hb : Below w.heap.size w w') => tree6_s l a c w' hl hnm (hS0.mono hb))
  replace hr := hd hr
  clear hS0 hnm
  go_enter Tryd.func6, Tryd.ntmps6
  go_wp2_with fail
  refine (ct.out _ (below_a1 _)).mono ?_
  rintro e w2 ⟨v', nm', a', n', c', rfl, hR0, hb2⟩
  have hX3 := hd (BoxN.new w2 [.int .i64 v', .string nm', .slice a' n' c'] 41)
  have hb3 := hd (below_a1 w2 (a := .cells #[.int .i64 v', .string nm', .slice a' n' c'] 41))
  have hR3 := hd (fun t ht => RepZ.same (SameS.below hb3.out (fun q h => h.2)) (fun q h => Nat.lt_of_lt_of_le h.2 hb3.out.size) _ _ (hR0 t ht) (S' := fun q => q < (w2.alloc (.cells #[.int .i64 v', .string nm', .slice a' n' c'] 41)).heap.size))
  have hB3 := hd (((below_a1 _).next hb2).next hb3.out)
  clear hR0 hb2 hb3
  go_upto_region 2 with (fail)
  change Hd (BoxN (w2.alloc (.cells #[.int .i64 v', .string nm', .slice a' n' c'] 41)) _ _) at hX3
  generalize w2.alloc (.cells #[.int .i64 v', .string nm', .slice a' n' c'] 41) = W3 at *
  have x0 := hX3.out.1 0 _ rfl; have x1 := hX3.out.1 1 _ rfl; have x2 := hX3.out.1 2 _ rfl
  cases hT : termT l with
  | none =>
    obtain ⟨rfl, rfl⟩ : r = [] ∧ b = false := by have := hr.out; rw [ttR_n hT] at this; cases this; exact ⟨rfl, rfl⟩
    go_wp2_with fail
    go_ret2
    exact ⟨rfl, hB3.out⟩
  | some t =>
    have hg := termT_good' hT
    obtain ⟨hr1, rfl⟩ : txK t = r ∧ b = true := by have := hr.out; rw [ttR_s hT] at this; cases this; exact ⟨rfl, rfl⟩
    have cy := hd (text_s t _ W3 _ (fun q h => h) (by omega) hg.2 (hR3.out t hT))
    rw [hr1] at cy
    clear hg hr hr1 hR3
    go_wp2_with fail
    refine cy.out.mono ?_
    rintro e w4 ⟨rfl, hb4⟩
    have hB4 := hd (hB3.out.next hb4)
    clear hb4
    go_wp2_with fail
    go_ret2
    exact ⟨rfl, hB4.out⟩
end Go.Proofs.YtbjilpemckoioaaDoor
