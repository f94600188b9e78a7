/- SchemaText of both sides. -/
import Derived.Test.YtcepnifcfkgaeaaDoorStS
namespace Go.Proofs.YtcepnifcfkgaeaaDoor
open Go.RowKit
set_option linter.unusedVariables false
set_option maxRecDepth 100000
/-- What SchemaText answers. -/
def cut400 (z : List UInt8) : List UInt8 × Bool := if z.length ≤ 400 then (z, true) else ([], false)
def sxP (l : List DType) (r : List UInt8 × Bool) : Prop := (∀ t, treeOf l t → goodP l → r = cut400 (stK t)) ∧ (¬ goodP l → r = ([], false))
theorem sxP_ex (l : List DType) : ∃ r b, sxP l (r, b) := by
  by_cases h : goodP l
  · obtain ⟨t, ht⟩ := good_tree h
    refine ⟨(cut400 (stK t)).1, (cut400 (stK t)).2, fun t' h' _ => by rw [treeOf_uniq h' ht], fun g => absurd h g⟩
  · exact ⟨[], false, fun t _ g => absurd g h, fun _ => rfl⟩
def TbPost (r : List UInt8) (b : Bool) (w : World) (e : Ending) (w' : World) : Prop := e = .returned (.tuple #[.string (mkS r), .bool b]) ∧ Below w.heap.size w w'
set_option maxHeartbeats 1600000 in
theorem SchemaText_i (l : List DType) (v : Value) (w : World) (hl : l.length ≤ 1000000000) (hs : ∀ x ∈ l, x.name.size ≤ 1000000000000) (h : Sl w v 6 (l.map DType.enc)) (r : List UInt8) (b : Bool) (hr : sxP l (r, b)) :
    Calls Tryd.prog 7 #[.agg #[v]] w (TbPost r b w) := by
  obtain ⟨g, hg⟩ := boolOf (goodP l)
  have ck := hd (fun w' (hbb : Below w.heap.size w w') => kindOf_i l v w' (by omega) hs (h.mono hbb) g hg)
  obtain ⟨a1, c1, rfl, _⟩ := h
  simp only [List.length_map] at ck ⊢
  replace hr := hd hr
  replace hg := hd hg
  clear hs
  cases g with
  | false =>
    have he := hr.out.2 (fun q => absurd (hg.out.2 q) (by simp))
    obtain ⟨rfl, rfl⟩ : r = [] ∧ b = false := by cases he; exact ⟨rfl, rfl⟩
    clear he
    go_enter Tryd.func7, Tryd.ntmps7
    go_wp2_with fail
    refine (ck.out _ (below_a1 _)).mono ?_
    intro e w2 hp
    obtain ⟨rfl, hb2⟩ := KoPost_f hp
    have hB := hd ((below_a1 _).next hb2)
    clear hp hb2
    go_wp2_with fail
    go_ret2
    exact ⟨rfl, hB.out⟩
  | true =>
    have hgd := hg.out.1 rfl
    go_enter Tryd.func7, Tryd.ntmps7
    go_wp2_with fail
    refine (ck.out _ (below_a1 _)).mono ?_
    intro e w2 hp
    obtain ⟨t, vp, rfl, ht, hrp, hb2⟩ := KoPost_t hp
    have hB := hd ((below_a1 _).next hb2)
    have hz := hd (hr.out.1 t ht hgd)
    have hsm : countK t ≤ 30 := ht.2.2.2.2.2
    have cx := hd (text_i t vp w2 _ _ (Nat.le_refl _) (by omega) ht.2.2.2.1 hrp)
    obtain ⟨bp, _, _, _, rfl, hjk⟩ := hrp.open
    clear hp hb2 hjk ht hr hg hgd ck
    have hms := mkS_size (stK t)
    generalize stK t = z at *
    by_cases h4 : z.length ≤ 400
    · have hn4 : ¬ (400 : Int) < ((mkS z).size : Int) := by omega
      obtain ⟨rfl, rfl⟩ : r = z ∧ b = true := by have := hz.out; rw [cut400, if_pos h4] at this; cases this; exact ⟨rfl, rfl⟩
      replace hms := hd hms
      go_wp2_with fail
      refine cx.out.mono ?_
      rintro e w3 ⟨rfl, hb3⟩
      have hB3 := hd (hB.out.next hb3)
      clear hb3
      go_wp2_with fail
      go_ret2
      exact ⟨rfl, hB3.out⟩
    · have hn4 : (400 : Int) < ((mkS z).size : Int) := by omega
      obtain ⟨rfl, rfl⟩ : r = [] ∧ b = false := by have := hz.out; rw [cut400, if_neg h4] at this; cases this; exact ⟨rfl, rfl⟩
      replace hms := hd hms
      go_wp2_with fail
      refine cx.out.mono ?_
      rintro e w3 ⟨rfl, hb3⟩
      have hB3 := hd (hB.out.next hb3)
      clear hb3
      go_wp2_with fail
      go_ret2
      exact ⟨rfl, hB3.out⟩
set_option maxHeartbeats 1600000 in
theorem SchemaText_s (l : List DType) (v : Value) (w : World) (hl : l.length ≤ 1000000000) (hs : ∀ x ∈ l, x.name.size ≤ 1000000000000) (h : Sl w v 6 (l.map DType.enc)) (r : List UInt8) (b : Bool) (hr : sxP l (r, b)) :
    Calls Tryd.prog 5 #[.agg #[v]] w (TbPost r b w) := by
  obtain ⟨g, hg⟩ := boolOf (goodP l)
  have cg := hd (fun w' (hbb : Below w.heap.size w w') => GoodSchema_s l v w' (by omega) hs (h.mono hbb) g hg)
  have ct := hd (fun w' (hbb : Below w.heap.size w w') (hg : goodP l) t ht => root_s l v w' hg t ht (h.mono hbb))
  obtain ⟨a1, c1, rfl, _⟩ := h
  simp only [List.length_map] at cg ct ⊢
  replace hr := hd hr
  replace hg := hd hg
  clear hs
  cases g with
  | false =>
    have he := hr.out.2 (fun q => absurd (hg.out.2 q) (by simp))
    obtain ⟨rfl, rfl⟩ : r = [] ∧ b = false := by cases he; exact ⟨rfl, rfl⟩
    clear he
    go_enter Tryd.func5, Tryd.ntmps5
    go_wp2_with fail
    refine (cg.out _ (below_a1 _)).mono ?_
    rintro e w2 ⟨rfl, hb2⟩
    have hB := hd ((below_a1 _).next hb2)
    clear hb2
    go_wp2_with fail
    go_ret2
    exact ⟨rfl, hB.out⟩
  | true =>
    have hgd := hg.out.1 rfl
    obtain ⟨t, ht⟩ := good_tree hgd
    have hz := hd (hr.out.1 t ht hgd)
    have hsm : countK t ≤ 30 := ht.2.2.2.2.2
    have ct := hd (fun w' (hbb : Below w.heap.size w w') => ct.out w' hbb hgd t ht)
    have cx := hd (fun r w lo hi hh hR => text_s t r w lo hi hh (by omega) ht.2.2.2.1 hR)
    clear ht hr hg hgd
    have hms := mkS_size (stK t)
    generalize stK t = z at *
    go_enter Tryd.func5, Tryd.ntmps5
    go_wp2_with fail
    refine (cg.out _ (below_a1 _)).mono ?_
    rintro e w2 ⟨rfl, hb2⟩
    have q := keepCell hb2 (show World.cell? _ ⟨w.heap.size, 0, none⟩ = some (.slice a1 l.length c1) by go_simp)
    have hB := hd ((below_a1 _).next hb2)
    clear hb2
    by_cases h4 : z.length ≤ 400
    · have hn4 : ¬ (400 : Int) < ((mkS z).size : Int) := by omega
      obtain ⟨rfl, rfl⟩ : r = z ∧ b = true := by have := hz.out; rw [cut400, if_pos h4] at this; cases this; exact ⟨rfl, rfl⟩
      replace hms := hd hms
      go_wp2_with fail
      refine (ct.out _ hB.out).mono ?_
      rintro e w3 ⟨rt, rfl, hrt3, hb3⟩
      have cy := hd (cx.out rt w3 _ _ (Nat.le_refl _) hrt3)
      obtain ⟨_, _, _, rfl, hjk⟩ := hrt3.open
      have hB3 := hd (hB.out.next hb3)
      clear hb3 hrt3 hjk
      go_wp2_with fail
      refine cy.out.mono ?_
      rintro e w4 ⟨rfl, hb4⟩
      have hB4 := hd (hB3.out.next hb4)
      clear hb4
      go_wp2_with fail
      go_ret2
      exact ⟨rfl, hB4.out⟩
    · have hn4 : (400 : Int) < ((mkS z).size : Int) := by omega
      obtain ⟨rfl, rfl⟩ : r = [] ∧ b = false := by have := hz.out; rw [cut400, if_neg h4] at this; cases this; exact ⟨rfl, rfl⟩
      replace hms := hd hms
      go_wp2_with fail
      refine (ct.out _ hB.out).mono ?_
      rintro e w3 ⟨rt, rfl, hrt3, hb3⟩
      have cy := hd (cx.out rt w3 _ _ (Nat.le_refl _) hrt3)
      obtain ⟨_, _, _, rfl, hjk⟩ := hrt3.open
      have hB3 := hd (hB.out.next hb3)
      clear hb3 hrt3 hjk
      go_wp2_with fail
      refine cy.out.mono ?_
      rintro e w4 ⟨rfl, hb4⟩
      have hB4 := hd (hB3.out.next hb4)
      clear hb4
      go_wp2_with fail
      go_ret2
      exact ⟨rfl, hB4.out⟩
end Go.Proofs.YtcepnifcfkgaeaaDoor
