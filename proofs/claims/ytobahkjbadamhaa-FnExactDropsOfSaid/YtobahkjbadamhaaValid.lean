/- Valid bytes and their values: valid, value, IsValid, DecodeValue of the program. -/
import Derived.Test.YtobahkjbadamhaaDecI2
namespace Go.Proofs.Ytobahkjbadamhaa
open Go.RowKit
set_option linter.unusedVariables false
set_option maxRecDepth 100000
/-- The nodes that bytes of a message tell, where they are valid. -/
def validR (t : K) (b : ByteArray) : Option (List DNode) := if b.size ≤ 400 then (decK t 0 b).map (fun x => rowsV x (-1) 0) else none
def valueR (r : Option (List DNode)) : Option (List DNode) := r.filter (fun l => decide (l.length ≤ 40))
def ValPost (r : Option (List DNode)) (w : World) (e : Ending) (w' : World) : Prop :=
  ∃ a n c, e = .returned (.tuple #[.slice a n c, .bool r.isSome]) ∧ (∀ l, r = some l → Own w' w.heap.size 113 5 (.slice a n c) (l.map DNode.enc)) ∧ Below w.heap.size w w'
theorem good_fold {t : K} (h : goodK t) : foldB t.of = false := by rw [h.1]; rfl
set_option maxHeartbeats 1600000 in
theorem valid_i (t : K) (hg : goodK t) (vt : Value) (b : ByteArray) (w : World) (lo hi : Nat) (hh : hi ≤ w.heap.size) (hR : RepP w lo hi t vt) :
    Calls Try.prog 78 #[vt, .string b] w (ValPost (validR t b) w) := by
  obtain ⟨bk, _, _, _, rfl, hjk⟩ := hR.open
  clear hjk
  have hsm := good_small hg
  by_cases hb : b.size ≤ 400
  · have hbI : ¬ (400 : Int) < (b.size : Int) := by omega
    have cd := hd (decode_i t hg.2.2.1 (good_fold hg) (.pointer (some ⟨bk, 0, none⟩)) [] (.slice none 0 0) b 0 (-1) w lo hi w.heap.size hh (Nat.le_refl _) hb (by simp only [List.length_nil]; omega) hR Own.nil)
    have hv := hd (show (decK t 0 b).map (fun t => [] ++ rowsV t (-1) ([] : List DNode).length) = validR t b by rw [validR, if_pos hb]; simp)
    clear hR hsm
    generalize (decK t 0 b).map (fun t => [] ++ rowsV t (-1) ([] : List DNode).length) = R at *
    rw [← hv.out]
    clear hv
    go_enter Try.func78, Try.ntmps78
    go_wp2_with fail
    refine cd.out.mono ?_
    rintro e w2 ⟨a2, n2, c2, rfl, hs, hB⟩
    have hfin := hd (show ValPost R w (.returned (.tuple #[.slice a2 n2 c2, .bool R.isSome])) w2 from ⟨a2, n2, c2, rfl, fun l hl => (hs l hl).1, hB⟩)
    generalize R.isSome = z at *
    clear hs hB
    go_wp2_with fail
    go_ret2
    exact hfin.out
  · have hbI : (400 : Int) < (b.size : Int) := by omega
    have hv := hd (show validR t b = none by rw [validR, if_neg hb])
    clear hR hsm
    go_enter Try.func78, Try.ntmps78
    go_wp2_with fail
    go_ret2
    rw [hv.out]
    exact ⟨none, 0, 0, rfl, (fun l hl => by cases hl), Below.refl _ _⟩
/-- What a call leaves that yields a value, or none. -/
def VaPost (r : Option (List DNode)) (w : World) (e : Ending) (w' : World) : Prop := AggbPost 113 5 ((r.getD []).map DNode.enc) r.isSome w e w'
set_option maxHeartbeats 3200000 in
theorem value_i (t : K) (hg : goodK t) (vt : Value) (b : ByteArray) (w : World) (lo hi : Nat) (hh : hi ≤ w.heap.size) (hR : RepP w lo hi t vt) :
    Calls Try.prog 87 #[vt, .string b] w (VaPost (valueR (validR t b)) w) := by
  have cv := hd (fun w' (hb : Below w.heap.size w w') => valid_i t hg vt b w' lo hi (Nat.le_trans hh hb.size) (hR.below hh hb))
  obtain ⟨bk, _, _, _, rfl, hjk⟩ := hR.open
  clear hjk hR
  generalize validR t b = R at *
  go_enter Try.func87, Try.ntmps87
  go_wp2_with fail
  refine (cv.out _ (below_a1 w)).mono ?_
  rintro e w2 ⟨a2, n2, c2, rfl, hs, hB2⟩
  have hx2 := hd (Box1.below (b := w.heap.size) (v := .slice none 0 0) ⟨by go_simp, by go_simp⟩ hB2)
  cases R with
  | none =>
    have hv := hd (show valueR none = none from rfl)
    have Q1 := hx2.out.1; have Q2 := hx2.out.2
    have hB := hd ((below_a1 w).next hB2)
    clear hs hB2
    go_wp2_with fail
    rw [hv.out]
    refine bodyPost_ret (v := .tuple #[.agg #[.slice none 0 0], .bool false]) (by simp [results, Try.results87, go_sem, Q1]) rfl ⟨_, none, rfl, OwnR.nil, ?_⟩
    exact hB.out.setCell (by simp) _
  | some r =>
    have ho := hs r rfl
    obtain ⟨a3, c3, e3, _⟩ := ho.sl
    rw [List.length_map] at e3
    cases e3
    have hv := hd (show valueR (some r) = if r.length ≤ 40 then some r else none by unfold valueR; simp [Option.filter])
    have hB := hd ((below_a1 w).next hB2)
    have ho := hd ho
    have Q1 := hx2.out.1; have Q2 := hx2.out.2
    clear hs hB2
    have hz : w.heap.size < w2.heap.size := hx2.out.lt
    by_cases h40 : r.length ≤ 40
    · have h40I : ¬ (40 : Int) < (r.length : Int) := by omega
      rw [if_pos h40] at hv
      go_wp2_with fail
      rw [hv.out]
      refine bodyPost_ret (v := .tuple #[.agg #[.slice a2 r.length c2], .bool true]) (by simp [results, Try.results87, go_sem, Q1]) rfl (AggbPost.of (rb := (Value.slice a2 r.length c2).ownBlock) (ownR_store (b := w.heap.size) (o := 0) (B2 := w.heap.size) ho.out.r (by simp) (by simp)) (hB.out.setCell (by simp) _))
    · have h40I : (40 : Int) < (r.length : Int) := by omega
      rw [if_neg h40] at hv
      go_wp2_with fail
      rw [hv.out]
      refine bodyPost_ret (v := .tuple #[.agg #[.slice none 0 0], .bool false]) (by simp [results, Try.results87, go_sem, Q1]) rfl ⟨_, none, rfl, OwnR.nil, ?_⟩
      exact hB.out.setCell (by simp) _
/-- What bytes are to a schema: no nodes where it or they are not good. -/
def decQ (l : List DType) (b : ByteArray) (r : Option (List DNode)) : Prop := (¬ goodP l → r = none) ∧ ∀ t, treeOf l t → goodP l → r = validR t b
theorem decQ_ex (l : List DType) (b : ByteArray) : ∃ r, decQ l b r := by
  by_cases h : goodP l
  · obtain ⟨t, ht⟩ := good_tree h
    exact ⟨validR t b, fun g => absurd h g, fun t' h' _ => by rw [treeOf_uniq h' ht]⟩
  · exact ⟨none, fun _ => rfl, fun t _ g => absurd g h⟩
def BBPost (r s : Bool) (w : World) (e : Ending) (w' : World) : Prop := e = .returned (.tuple #[.bool r, .bool s]) ∧ Below w.heap.size w w'
set_option maxHeartbeats 3200000 in
theorem IsValid_i (b : ByteArray) (l : List DType) (v : Value) (w : World) (hl : l.length ≤ 1000000000) (hs : ∀ x ∈ l, x.name.size ≤ 1000000000000) (h : Sl w v 6 (l.map DType.enc)) (g : Bool) (hg : g = true ↔ goodP l) (r : Option (List DNode)) (hr : decQ l b r) :
    Calls Try.prog 35 #[.string b, .agg #[v]] w (BBPost r.isSome (g && decide (b.size ≤ 400)) w) := by
  have ck := hd (fun w' (hbb : Below w.heap.size w w') => kindOf_i l v w' (by omega) hs (h.mono hbb) g hg)
  obtain ⟨a1, c1, rfl, _⟩ := h
  simp only [List.length_map] at ck ⊢
  replace hr := hd hr
  replace hg := hd hg
  cases g with
  | true =>
    have hgp := hg.out.1 rfl
    obtain ⟨t0, ht0⟩ := good_tree hgp
    have hgp := hd hgp
    by_cases hb : b.size ≤ 400
    · have hbI : ¬ (400 : Int) < (b.size : Int) := by omega
      have hdb : decide (b.size ≤ 400) = true := by simpa using hb
      rw [hdb]
      go_enter Try.func35, Try.ntmps35
      go_wp2_with fail
      refine (ck.out _ (below_a1 _)).mono ?_
      intro e w2 hp
      obtain ⟨t, vp, rfl, ht, hrp, hb2⟩ := KoPost_t hp
      have hrt := hd (hr.out.2 t ht hgp.out)
      have cd := hd (valid_i t ht.2 vp b w2 _ _ (Nat.le_refl _) hrp)
      obtain ⟨bp, _, _, _, rfl, hjk⟩ := hrp.open
      have hB := hd ((below_a1 w).next hb2)
      clear hp hb2 hrp ht hjk
      rw [← hrt.out] at cd
      clear hrt ht0
      go_wp2_with fail
      refine cd.out.mono ?_
      rintro e w3 ⟨a3, n3, c3, rfl, _, hb3⟩
      have hB3 := hd (hB.out.next hb3)
      generalize r.isSome = z at *
      clear hb3
      go_wp2_with fail
      go_ret2
      exact ⟨rfl, hB3.out⟩
    · have hbI : (400 : Int) < (b.size : Int) := by omega
      have hdb : decide (b.size ≤ 400) = false := by simpa using hb
      have hrn := hd (show r = none by rw [hr.out.2 t0 ht0 hgp.out, validR, if_neg hb])
      rw [hdb]
      go_enter Try.func35, Try.ntmps35
      go_wp2_with fail
      refine (ck.out _ (below_a1 _)).mono ?_
      intro e w2 hp
      obtain ⟨t, vp, rfl, ht, hrp, hb2⟩ := KoPost_t hp
      obtain ⟨bp, _, _, _, rfl, hjk⟩ := hrp.open
      have hB := hd ((below_a1 w).next hb2)
      clear hp hb2 hrp ht hjk
      go_wp2_with fail
      go_ret2
      rw [hrn.out]
      exact ⟨rfl, hB.out⟩
  | false =>
    have hrn := hd (hr.out.1 (fun g => absurd (hg.out.2 g) (by simp)))
    go_enter Try.func35, Try.ntmps35
    go_wp2_with fail
    refine (ck.out _ (below_a1 _)).mono ?_
    intro e w2 hp
    obtain ⟨rfl, hb2⟩ := KoPost_f hp
    have hB := hd ((below_a1 w).next hb2)
    clear hp hb2
    go_wp2_with fail
    go_ret2
    rw [hrn.out]
    exact ⟨rfl, hB.out⟩
set_option maxHeartbeats 3200000 in
theorem DecodeValue_i (b : ByteArray) (l : List DType) (v : Value) (w : World) (hl : l.length ≤ 1000000000) (hs : ∀ x ∈ l, x.name.size ≤ 1000000000000) (h : Sl w v 6 (l.map DType.enc)) (r : Option (List DNode)) (hr : decQ l b r) :
    Calls Try.prog 41 #[.string b, .agg #[v]] w (VaPost (valueR r) w) := by
  obtain ⟨g, hg⟩ := boolOf (goodP l)
  have ck := hd (fun w' (hbb : Below w.heap.size w w') => kindOf_i l v w' (by omega) hs (h.mono hbb) g hg)
  obtain ⟨a1, c1, rfl, _⟩ := h
  simp only [List.length_map] at ck ⊢
  replace hr := hd hr
  replace hg := hd hg
  go_enter Try.func41, Try.ntmps41
  go_wp2_with fail
  refine (ck.out _ (below_a2 _)).mono ?_
  intro e w2 hp
  cases g with
  | true =>
    have hgp := hd (hg.out.1 rfl)
    obtain ⟨t, vp, rfl, ht, hrp, hb2⟩ := KoPost_t hp
    have hrt := hd (hr.out.2 t ht hgp.out)
    have cd := hd (value_i t ht.2 vp b w2 _ _ (Nat.le_refl _) hrp)
    obtain ⟨bp, _, _, _, rfl, hjk⟩ := hrp.open
    have hx2 := hd (Box1.below (b := w.heap.size + 1) (v := .slice none 0 0) ⟨by go_simp, by go_simp⟩ hb2)
    have hB := hd ((below_a2 w).next hb2)
    have hz2 : w.heap.size + 2 ≤ w2.heap.size := by have := hb2.size; simp at this; omega
    rw [← hrt.out] at cd
    clear hp hb2 hrp ht hgp hjk hrt
    go_wp2_with fail
    refine cd.out.mono ?_
    rintro e w3 ⟨v3, rb, rfl, ho3, hb3⟩
    have hx3 := hd (hx2.out.below hb3)
    have hB3 := hd (hB.out.next hb3)
    have Q1 := hx3.out.1; have Q2 := hx3.out.2
    generalize valueR r = R at *
    obtain ⟨a3, c3, rfl, hjk⟩ := ho3.sl
    clear hjk hb3
    generalize hn3 : (List.map DNode.enc (R.getD [])).length = n3 at *
    replace ho3 := hd ho3
    clear hn3
    have hfin := hd (fun u => (show VaPost R w (.returned (.tuple #[.agg #[.slice a3 n3 c3], .bool R.isSome])) (w3.setCell ⟨w.heap.size + 1, 0, none⟩ u) from AggbPost.of (rb := rb) (ownR_store (b := w.heap.size + 1) (o := 0) (B2 := w.heap.size) ho3.out (by omega) (by omega)) (hB3.out.setCell (by simp) _)))
    generalize R.isSome = z at *
    go_wp2_with fail
    refine bodyPost_ret (v := .tuple #[.agg #[.slice a3 n3 c3], .bool z]) (by simp [results, Try.results41, go_sem, Q1]) rfl (hfin.out _)
  | false =>
    obtain ⟨rfl, hb2⟩ := KoPost_f hp
    have hrn := hd (show valueR r = none by rw [hr.out.1 (fun g => absurd (hg.out.2 g) (by simp))]; rfl)
    have hx2 := Box1.below (b := w.heap.size + 1) (v := .slice none 0 0) ⟨by go_simp, by go_simp⟩ hb2
    have Q1 := hx2.1; have Q2 := hx2.2
    have hB := hd ((below_a2 w).next hb2)
    clear hp hb2 hx2
    go_wp2_with fail
    rw [hrn.out]
    refine bodyPost_ret (v := .tuple #[.agg #[.slice none 0 0], .bool false]) (by simp [results, Try.results41, go_sem, Q1]) rfl ⟨_, none, rfl, OwnR.nil, ?_⟩
    exact hB.out.setCell (by simp) _
end Go.Proofs.Ytobahkjbadamhaa
