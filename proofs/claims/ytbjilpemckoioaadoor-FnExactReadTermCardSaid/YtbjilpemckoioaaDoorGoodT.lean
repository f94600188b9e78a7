/- Good terms as trees: treeOf, GoodTerm of the program; l6Tree, GoodTerm of the reference. -/
import Derived.Test.YtbjilpemckoioaaDoorTermS
namespace Go.Proofs.YtbjilpemckoioaaDoor
open Go.RowKit
set_option linter.unusedVariables false
set_option maxRecDepth 100000
theorem Sl_P {w : World} {a : Option Addr} {c : Nat} {l : List DCell} (h : Sl w (.slice a l.length c) 3 (l.map DCell.enc)) : ∃ b1, SlP w b1 a l := by
  rcases h.open with ⟨_, _, _, hr⟩ | ⟨b, o, c2, e, _, C⟩
  · exact ⟨0, .inl (by simpa using hr)⟩
  · rw [List.length_map] at e
    cases e; exact ⟨b, .inr ⟨o, rfl, C⟩⟩
def ToPost (T : Option K) (w : World) (e : Ending) (w' : World) : Prop := match T with
  | none => e = .returned (.pointer none) ∧ Below w.heap.size w w'
  | some t => ∃ b, e = .returned (.pointer (some ⟨b, 0, none⟩)) ∧ RepY HT w' (NewB w w') t (.pointer (some ⟨b, 0, none⟩)) ∧ Below w.heap.size w w'
theorem ToPost_n {w w' : World} {e : Ending} (h : ToPost none w e w') : e = .returned (.pointer none) ∧ Below w.heap.size w w' := h
theorem ToPost_s {t : K} {w w' : World} {e : Ending} (h : ToPost (some t) w e w') : ∃ b, e = .returned (.pointer (some ⟨b, 0, none⟩)) ∧ RepY HT w' (NewB w w') t (.pointer (some ⟨b, 0, none⟩)) ∧ Below w.heap.size w w' := h
theorem NewB.of {w w1 w2 : World} (h : Below w.heap.size w w1) {b : Nat} (hb : NewB w1 w2 b) : NewB w w2 b := ⟨Nat.le_trans h.size hb.1, hb.2⟩
set_option maxHeartbeats 1600000 in
theorem treeOf_i (l : List DCell) (a : Option Addr) (c : Nat) (w : World) (hl : l.length ≤ 1000000000) (hc : l.length ≤ c) (hnm : ∀ x ∈ l, x.name.size ≤ 1000000000000) (hS : Sl w (.slice a l.length c) 3 (l.map DCell.enc)) :
    Calls Tryd.prog 18 #[.agg #[.slice a l.length c]] w (ToPost (termT l) w) := by
  have q0 := hd (show (w.alloc (.cells #[.slice a l.length c] 30)).cell? ⟨w.heap.size, 0, none⟩ = some (.slice a l.length c) by go_simp)
  have hb := hd (below_a1 w (a := .cells #[.slice a l.length c] 30))
  by_cases h30 : l.length ≤ 30
  · have h30I : ¬ (30 : Int) < (l.length : Int) := by omega
    obtain ⟨b1, hP⟩ := Sl_P hS
    have ct := hd (fun w' (hb : Below w.heap.size w w') => treeFrom_i b1 30 l a c w' h30 (by omega) hc hnm (hP.mono hb))
    have hno := hd (fun (h : rdT 30 l = none) => termT_no h30 h)
    have hof := hd (fun t r (h : rdT 30 l = some (t, r)) => termT_of h30 h)
    obtain ⟨T, hT⟩ : ∃ T, termT l = T := ⟨_, rfl⟩
    rw [hT] at hno hof ⊢
    clear hT hS hP hnm
    cases hq : rdT 30 l with
    | none =>
      have h0 := hno.out hq
      rw [hq] at ct
      subst h0
      clear hno hof hq
      go_enter Tryd.func18, Tryd.ntmps18
      go_upto_region 1 with (fail)
      generalize w.alloc (.cells #[.slice a l.length c] 30) = W at *
      have q := q0.out
      go_wp2_with fail
      refine (ct.out _ hb.out).mono ?_
      intro e w2 hp
      obtain ⟨rfl, hb2⟩ := TfPost_n hp
      have hB := hd (hb.out.next hb2)
      clear hp hb2
      go_wp2_with fail
      go_ret
      exact ⟨rfl, hB.out⟩
    | some q =>
      obtain ⟨t, r⟩ := q
      have h0 := hof.out t r hq
      rw [hq] at ct
      have hrl : r.length ≤ 30 := by have := rdT_len hq; omega
      clear hno hof hq
      cases r with
      | nil =>
        rw [if_pos rfl] at h0
        subst h0
        go_enter Tryd.func18, Tryd.ntmps18
        go_upto_region 1 with (fail)
        generalize w.alloc (.cells #[.slice a l.length c] 30) = W at *
        have q := q0.out
        go_wp2_with fail
        refine (ct.out _ hb.out).mono ?_
        intro e w2 hp
        obtain ⟨v, a2, c2, rfl, hR, _, hb2⟩ := TfPost_s hp
        have hB := hd (hb.out.next hb2)
        have hR2 := hd (RepY.same (SameS.refl _ _) (fun b hx => NewB.of hb.out hx) _ _ hR)
        obtain ⟨bp, _, _, _, rfl, hjk⟩ := hR.open
        clear hp hb2 hjk hR
        go_wp2_with fail
        go_ret
        exact ⟨bp, rfl, hR2.out, hB.out⟩
      | cons x r =>
        rw [if_neg (by simp)] at h0
        subst h0
        have hrI : (0 : Int) < (r.length : Int) + 1 := by omega
        go_enter Tryd.func18, Tryd.ntmps18
        go_upto_region 1 with (fail)
        generalize w.alloc (.cells #[.slice a l.length c] 30) = W at *
        have q := q0.out
        go_wp2_with fail
        refine (ct.out _ hb.out).mono ?_
        intro e w2 hp
        obtain ⟨v, a2, c2, rfl, hR, _, hb2⟩ := TfPost_s hp
        have hB := hd (hb.out.next hb2)
        obtain ⟨bp, _, _, _, rfl, hjk⟩ := hR.open
        clear hp hb2 hjk hR
        rw [List.length_cons]
        go_wp2_with fail
        go_ret
        exact ⟨rfl, hB.out⟩
  · have h30I : (30 : Int) < (l.length : Int) := by omega
    rw [termT_long h30]
    go_enter Tryd.func18, Tryd.ntmps18
    go_upto_region 1 with (fail)
    generalize w.alloc (.cells #[.slice a l.length c] 30) = W at *
    have q := q0.out
    go_wp2_with fail
    go_ret
    exact ⟨rfl, hb.out⟩
/-- What l6Tree hands over. -/
def T6Post (T : Option K) (w : World) (e : Ending) (w' : World) : Prop :=
  ∃ (v : Int) (nm : ByteArray) (a : Option Addr) (n c : Nat), e = .returned (.tuple #[.agg #[.int .i64 v, .string nm, .slice a n c], .bool T.isSome]) ∧ (∀ t, T = some t → RepZ HT 3 w' (NewB w w') t [.int .i64 v, .string nm, .slice a n c]) ∧ Below w.heap.size w w'
set_option maxHeartbeats 3200000 in
theorem tree6_s (l : List DCell) (a : Option Addr) (c : Nat) (w : World) (hl : l.length ≤ 1000000000) (hnm : ∀ x ∈ l, x.name.size ≤ 1000000000000) (hS : Sl w (.slice a l.length c) 3 (l.map DCell.enc)) :
    Calls Tryd.prog 15 #[.agg #[.slice a l.length c]] w (T6Post (termT l) w) := by
  have hq0 := hd (show ((w.alloc (.cells #[.slice a l.length c] 30)).alloc (.cells #[.int .i64 0, .string ⟨#[]⟩, .slice none 0 0] 41)).cell? ⟨w.heap.size, 0, none⟩ = some (.slice a l.length c) by go_simp)
  have hX := hd (show BoxN ((w.alloc (.cells #[.slice a l.length c] 30)).alloc (.cells #[.int .i64 0, .string ⟨#[]⟩, .slice none 0 0] 41)) (w.heap.size + 1) [.int .i64 0, .string ⟨#[]⟩, .slice none 0 0] from by
    have := BoxN.new (w.alloc (.cells #[.slice a l.length c] 30)) [.int .i64 0, .string ⟨#[]⟩, .slice none 0 0] 41
    rwa [World.size_alloc] at this)
  have hb := hd (below_a2 w (a := .cells #[.slice a l.length c] 30) (b := .cells #[.int .i64 0, .string ⟨#[]⟩, .slice none 0 0] 41))
  have hsW : w.heap.size + 2 ≤ ((w.alloc (.cells #[.slice a l.length c] 30)).alloc (.cells #[.int .i64 0, .string ⟨#[]⟩, .slice none 0 0] 41)).heap.size := by simp
  by_cases h30 : l.length ≤ 30
  · have h30I : ¬ (30 : Int) < (l.length : Int) := by omega
    obtain ⟨b1, o1, hC⟩ : ∃ b1 o1, l = [] ∨ a = some ⟨b1, o1, none⟩ ∧ Cells w b1 o1 3 (l.map DCell.enc) := by
      rcases hS.open with ⟨_, _, _, hr⟩ | ⟨b, o, c2, e, _, C⟩
      · exact ⟨0, 0, .inl (by simpa using hr)⟩
      · rw [List.length_map] at e
        cases e; exact ⟨b, o, .inr ⟨rfl, C⟩⟩
    have ct := hd (fun w' (hb : Below w.heap.size w w') => read6_s l a c b1 o1 (by omega) hnm 30 0 w' (by omega) (Nat.zero_le _) (hC.imp id (fun h => ⟨h.1, h.2.mono hb⟩)))
    rw [List.drop_zero] at ct
    have hno := hd (fun (h : rdT 30 l = none) => termT_no h30 h)
    have hof := hd (fun t r (h : rdT 30 l = some (t, r)) => termT_of h30 h)
    obtain ⟨T, hT⟩ : ∃ T, termT l = T := ⟨_, rfl⟩
    rw [hT] at hno hof ⊢
    clear hT hS hC hnm
    cases hq : rdT 30 l with
    | none =>
      have h0 := hno.out hq
      rw [hq] at ct
      subst h0
      clear hno hof hq
      go_enter Tryd.func15, Tryd.ntmps15
      go_upto_region 1 with (fail)
      generalize (w.alloc (.cells #[.slice a l.length c] 30)).alloc (.cells #[.int .i64 0, .string ⟨#[]⟩, .slice none 0 0] 41) = W at *
      have q := hq0.out
      go_wp2_with fail
      refine (ct.out _ hb.out).mono ?_
      intro e w2 hp
      obtain ⟨rfl, hb2⟩ := RdPost_n hp
      have hal := hd (hb2.next (below_a1 w2 (a := .cells #[.int .i64 0, .string ⟨#[]⟩, .slice none 0 0] 41)))
      have hX4 := hd (show BoxN (w2.alloc (.cells #[.int .i64 0, .string ⟨#[]⟩, .slice none 0 0] 41)) w2.heap.size [.int .i64 0, .string ⟨#[]⟩, .slice none 0 0] from BoxN.new w2 _ _)
      clear hp hb2 q
      go_upto_region 4 with (fail)
      generalize w2.alloc (.cells #[.int .i64 0, .string ⟨#[]⟩, .slice none 0 0] 41) = W4 at *
      have hX2 := hd (hX.out.below hal.out)
      have hB := hd (hb.out.next hal.out)
      have y0 := hX4.out.1 0 _ rfl; have y1 := hX4.out.1 1 _ rfl; have y2 := hX4.out.1 2 _ rfl
      have z0 := hX2.out.1 0 _ rfl; have rz0 := hX2.out.2.1 0; have z1 := hX2.out.1 1 _ rfl; have rz1 := hX2.out.2.1 1; have z2 := hX2.out.1 2 _ rfl; have rz2 := hX2.out.2.1 2
      have hbf := hd ((hB.out.grown (grownBy_setCells (w.heap.size + 1) [.int .i64 0, .string ⟨#[]⟩, .slice none 0 0] W4 0) hB.out.size (fun g hg => by cases hg; omega)).drew)
      go_region
      go_wp2_with fail
      exact bodyPost_ret (v := .tuple #[.agg #[.int .i64 0, .string ⟨#[]⟩, .slice none 0 0], .bool false]) (by simp [results, Tryd.results15, go_sem, z0, z1, z2]) rfl ⟨0, ⟨#[]⟩, none, 0, 0, rfl, (fun t h => by cases h), hbf.out⟩
    | some q =>
      obtain ⟨t, r⟩ := q
      have h0 := hof.out t r hq
      rw [hq] at ct
      clear hno hof hq
      go_enter Tryd.func15, Tryd.ntmps15
      go_upto_region 1 with (fail)
      generalize (w.alloc (.cells #[.slice a l.length c] 30)).alloc (.cells #[.int .i64 0, .string ⟨#[]⟩, .slice none 0 0] 41) = W at *
      have q := hq0.out
      replace h0 := hd h0
      go_wp2_with fail
      refine (ct.out _ hb.out).mono ?_
      intro e w2 hp
      obtain ⟨rows, k, rfl, ⟨hk0, hkl, hkr⟩, hR, hb2⟩ := RdPost_s hp
      obtain ⟨a7, c7, rows7, rfl, hjk⟩ := hR.openT
      have hal := hd (hb2.next (below_a1 w2 (a := .cells #[.int .i64 t.of, .string t.name, .slice a7 t.parts.length c7] 41)))
      have hX4 := hd (show BoxN (w2.alloc (.cells #[.int .i64 t.of, .string t.name, .slice a7 t.parts.length c7] 41)) w2.heap.size [.int .i64 t.of, .string t.name, .slice a7 t.parts.length c7] from BoxN.new w2 _ _)
      have hR4 := hd (RepZ.same (S' := NewB W w2) (SameS.below (below_a1 w2 (a := .cells #[.int .i64 t.of, .string t.name, .slice a7 t.parts.length c7] 41)) (fun b hb => hb.2)) (fun b hb => hb) _ _ hR)
      have hz24 := (below_a1 w2 (a := .cells #[.int .i64 t.of, .string t.name, .slice a7 t.parts.length c7] 41)).size
      have q2 := keepCell hal.out q
      clear hp hb2 q hjk hR
      go_upto_region 4 with (fail)
      generalize w2.alloc (.cells #[.int .i64 t.of, .string t.name, .slice a7 t.parts.length c7] 41) = W4 at *
      have hX2 := hd (hX.out.below hal.out)
      have hB := hd (hb.out.next hal.out)
      have hkI : (0 : Int) < (k : Int) := by omega
      have y0 := hX4.out.1 0 _ rfl; have y1 := hX4.out.1 1 _ rfl; have y2 := hX4.out.1 2 _ rfl
      have z0 := hX2.out.1 0 _ rfl; have rz0 := hX2.out.2.1 0; have z1 := hX2.out.1 1 _ rfl; have rz1 := hX2.out.2.1 1; have z2 := hX2.out.1 2 _ rfl; have rz2 := hX2.out.2.1 2
      by_cases hr : r = []
      · have hk2 : k = l.length := by
          have := congrArg List.length hkr
          rw [hr, List.length_drop, List.length_nil] at this
          omega
        have h0' := h0.out
        rw [if_pos hr] at h0'
        subst h0'
        subst hk2
        clear hr hkr h0
        have heq : ((l.length : Int) == (l.length : Int)) = true := by simp
        have hbf := hd ((hB.out.grown (grownBy_setCells (w.heap.size + 1) [.int .i64 t.of, .string t.name, .slice a7 t.parts.length c7] W4 0) hB.out.size (fun g hg => by cases hg; omega)).drew)
        have hRf := hd (RepZ.same (S' := NewB w (setCells W4 (w.heap.size + 1) 0 [.int .i64 t.of, .string t.name, .slice a7 t.parts.length c7]).drew) (w' := (setCells W4 (w.heap.size + 1) 0 [.int .i64 t.of, .string t.name, .slice a7 t.parts.length c7]).drew) (fun b0 hb0 o0 => (SameS.grown (w := W4) (S := NewB W w2) (grownBy_setCells (w.heap.size + 1) [.int .i64 t.of, .string t.name, .slice a7 t.parts.length c7] W4 0) (fun b hb => by have := hb.2; omega) (fun b hb e => by have : b = w.heap.size + 1 := Option.some.inj e; have := hb.1; omega)) b0 hb0 o0) (fun b hb => ⟨by have := hb.1; omega, Nat.lt_of_lt_of_le hb.2 (Nat.le_trans hz24 (grownBy_setCells (w.heap.size + 1) [.int .i64 t.of, .string t.name, .slice a7 t.parts.length c7] W4 0).size)⟩) _ _ hR4.out)
        go_region
        go_wp2_with fail
        exact bodyPost_ret (v := .tuple #[.agg #[.int .i64 t.of, .string t.name, .slice a7 t.parts.length c7], .bool true]) (by simp [results, Tryd.results15, go_sem, z0, z1, z2]) rfl ⟨t.of, t.name, a7, t.parts.length, c7, rfl, (fun t2 h => by cases h; exact hRf.out), hbf.out⟩
      · have hk2 : k ≠ l.length := by
          intro e
          rw [e, List.drop_length] at hkr
          exact hr hkr
        have h0' := h0.out
        rw [if_neg hr] at h0'
        subst h0'
        have heq : ((k : Int) == (l.length : Int)) = false := by simp; omega
        clear hr hkr h0 hk2
        have hbf := hd ((hB.out.grown (grownBy_setCells (w.heap.size + 1) [.int .i64 t.of, .string t.name, .slice a7 t.parts.length c7] W4 0) hB.out.size (fun g hg => by cases hg; omega)).drew)
        have hRf := hd (RepZ.same (S' := NewB w (setCells W4 (w.heap.size + 1) 0 [.int .i64 t.of, .string t.name, .slice a7 t.parts.length c7]).drew) (w' := (setCells W4 (w.heap.size + 1) 0 [.int .i64 t.of, .string t.name, .slice a7 t.parts.length c7]).drew) (fun b0 hb0 o0 => (SameS.grown (w := W4) (S := NewB W w2) (grownBy_setCells (w.heap.size + 1) [.int .i64 t.of, .string t.name, .slice a7 t.parts.length c7] W4 0) (fun b hb => by have := hb.2; omega) (fun b hb e => by have : b = w.heap.size + 1 := Option.some.inj e; have := hb.1; omega)) b0 hb0 o0) (fun b hb => ⟨by have := hb.1; omega, Nat.lt_of_lt_of_le hb.2 (Nat.le_trans hz24 (grownBy_setCells (w.heap.size + 1) [.int .i64 t.of, .string t.name, .slice a7 t.parts.length c7] W4 0).size)⟩) _ _ hR4.out)
        go_region
        go_wp2_with fail
        exact bodyPost_ret (v := .tuple #[.agg #[.int .i64 t.of, .string t.name, .slice a7 t.parts.length c7], .bool false]) (by simp [results, Tryd.results15, go_sem, z0, z1, z2]) rfl ⟨t.of, t.name, a7, t.parts.length, c7, rfl, (fun t2 h => by cases h), hbf.out⟩
  · have h30I : (30 : Int) < (l.length : Int) := by omega
    rw [termT_long h30]
    go_enter Tryd.func15, Tryd.ntmps15
    go_upto_region 1 with (fail)
    generalize (w.alloc (.cells #[.slice a l.length c] 30)).alloc (.cells #[.int .i64 0, .string ⟨#[]⟩, .slice none 0 0] 41) = W at *
    have q := hq0.out
    have z0 := hX.out.1 0 _ rfl; have rz0 := hX.out.2.1 0; have z1 := hX.out.1 1 _ rfl; have rz1 := hX.out.2.1 1; have z2 := hX.out.1 2 _ rfl; have rz2 := hX.out.2.1 2
    go_wp2_with fail
    exact bodyPost_ret (v := .tuple #[.agg #[.int .i64 0, .string ⟨#[]⟩, .slice none 0 0], .bool false]) (by simp [results, Tryd.results15, go_sem, z0, z1, z2]) rfl ⟨0, ⟨#[]⟩, none, 0, 0, rfl, (fun t h => by cases h), hb.out.grown (grownBy_setCells (w.heap.size + 1) [.int .i64 0, .string ⟨#[]⟩, .slice none 0 0] W 0) hb.out.size (fun g hg => by cases hg; omega)⟩
set_option maxHeartbeats 800000 in
theorem GoodTerm_s (l : List DCell) (v : Value) (w : World) (hl : l.length ≤ 1000000000) (hnm : ∀ x ∈ l, x.name.size ≤ 1000000000000) (hS : Sl w v 3 (l.map DCell.enc)) (b : Bool) (hb : b = (termT l).isSome) :
    Calls Tryd.prog 24 #[.agg #[v]] w (BoolPost b w) := by
  have hS0 := hS
  obtain ⟨a, c, rfl, hjk⟩ := hS
  clear hjk
  rw [List.length_map] at *
  have ct := hd (fun w' (hb : Below w.heap.size w w') => tree6_s l a c w' hl hnm (hS0.mono hb))
  clear hS0 hnm
  obtain ⟨T, hT⟩ : ∃ T, termT l = T := ⟨_, rfl⟩
  rw [hT] at ct hb
  subst hb
  go_enter Tryd.func24, Tryd.ntmps24
  go_wp2_with fail
  refine (ct.out _ (below_a1 _)).mono ?_
  rintro e w2 ⟨v', nm', a', n', c', rfl, _, hb2⟩
  have hB := hd (((below_a1 _).next hb2).next (below_a1 w2 (a := .cells #[.int .i64 v', .string nm', .slice a' n' c'] 41)))
  clear hb2
  generalize T.isSome = ok at *
  go_wp2_with fail
  go_ret
  exact ⟨rfl, hB.out⟩
theorem Own.cap {w : World} {B E sz n c : Nat} {a : Option Addr} {rows : List (List Value)} (h : Own w B E sz (.slice a n c) rows) : n ≤ c := by
  rcases (own_flat h).2 with ⟨e, _⟩ | ⟨g, cap, cur, e, _, _, h3, _⟩
  · cases e; exact Nat.le_refl _
  · cases e; exact h3
theorem small_cells {l : List DCell} {b : Int} (hb : b ≤ 1048576) (h : SmallCell b l.length l) : ∀ x ∈ l, x.name.size ≤ 1000000000000 := by
  intro x hx
  obtain ⟨i, hi, rfl⟩ := List.mem_iff_getElem.1 hx
  have := h i hi hi
  omega
end Go.Proofs.YtbjilpemckoioaaDoor
