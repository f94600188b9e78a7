/- ApplyTo of the reference. -/
import Derived.Test.YtbjilpemckoioaaApU
namespace Go.Proofs.Ytbjilpemckoioaa
open Go.RowKit
set_option linter.unusedVariables false
set_option maxRecDepth 100000
set_option maxHeartbeats 12800000 in
theorem ApplyTo_s (l : List DCell) (ls : List (List DCell)) (v0 v1 : Value) (w : World) (hl : l.length ≤ 1000000000) (hls : ls.length ≤ 1000000000) (hll : ∀ x ∈ ls, x.length ≤ 1000000000) (hs : ∀ x ∈ l, x.name.size ≤ 1000000000000) (hss : ∀ x ∈ ls, ∀ y ∈ x, y.name.size ≤ 1000000000000)
    (h0 : Sl w v0 3 (l.map DCell.enc)) (h1 : SlT w v1 ls) (r : List DCell) (b : Bool) (hr : apR l ls = if b = true then some r else none) (hr0 : b = false → r = []) :
    Calls Try.prog 18 #[.agg #[v0], v1] w (AggbPost 163 3 (r.map DCell.enc) b w) := by
  have h00 := h0
  obtain ⟨a0, c0, rfl, -⟩ := h0
  simp only [List.length_map] at h00 ⊢
  have k0 := hd (fun w' (hbb : Below w.heap.size w w') => tree6_s l a0 c0 w' hl hs (h00.mono hbb))
  obtain ⟨bb, hbb⟩ : ∃ bb, ((ls.length : Int) == 6) = bb := ⟨_, rfl⟩
  have k1 := hd (fun w' (hw : Below w.heap.size w w') => subst_s ls v1 w' hls hll hss (h1.mono hw) bb hbb)
  obtain ⟨us, hul, hus, huj⟩ := h1
  obtain ⟨aL, cL, rfl, -⟩ := hus
  simp only [List.length_map, hul] at k1 ⊢
  clear hs h00 huj hll hss
  replace hr := hd hr
  replace hr0 := hd hr0
  have hfalse := hd (fun (e : apR l ls = none) => (show r = [] ∧ b = false from by
    have h := hr.out
    cases b with
    | false => exact ⟨hr0.out rfl, rfl⟩
    | true => rw [e] at h; cases h))
  have hx1 := hd (fun w' (hb : Below ((w.alloc (.cells #[.slice a0 l.length c0] 29)).alloc (.cells #[.slice none 0 0] 29)).heap.size ((w.alloc (.cells #[.slice a0 l.length c0] 29)).alloc (.cells #[.slice none 0 0] 29)) w') => (Box1.below (b := w.heap.size + 1) (v := .slice none 0 0) ⟨by go_simp, by go_simp⟩ hb : Box1 w' _ _))
  have hB := hd (below_a2 w (a := .cells #[.slice a0 l.length c0] 29) (b := .cells #[.slice none 0 0] 29))
  go_enter Try.func18, Try.ntmps18
  go_wp2_with fail
  refine (k0.out _ hB.out).mono ?_
  rintro e w2 ⟨v', nm', a', n', c', rfl, hR0, hb2⟩
  have hx2 := hd (hx1.out _ hb2)
  have hB2 := hd (hB.out.next hb2)
  have hz2 : w.heap.size + 2 ≤ w2.heap.size := by have := hb2.size; simp at this; omega
  have hX3 := hd (BoxN.new w2 [.int .i64 v', .string nm', .slice a' n' c'] 91)
  have hb3 := hd (below_a1 w2 (a := .cells #[.int .i64 v', .string nm', .slice a' n' c'] 91))
  have hR3 := hd (fun t ht => RepZ.same (SameS.below hb3.out (fun q h => h.2)) (fun q h => Nat.lt_of_lt_of_le h.2 hb3.out.size) _ _ (hR0 t ht) (S' := fun q => q < (w2.alloc (.cells #[.int .i64 v', .string nm', .slice a' n' c'] 91)).heap.size))
  clear hR0 hb2 hx1 k0
  go_upto_region 2 with (fail)
  change Hd (BoxN (w2.alloc (.cells #[.int .i64 v', .string nm', .slice a' n' c'] 91)) _ _) at hX3
  generalize w2.alloc (.cells #[.int .i64 v', .string nm', .slice a' n' c'] 91) = W3 at *
  have hB3 := hd (hB2.out.next hb3.out)
  have hx3 := hd (hx2.out.below hb3.out)
  have hz3 : w.heap.size + 2 ≤ W3.heap.size := by have := hb3.out.size; omega
  clear hb3 hx2 hB2
  go_wp2_with fail
  refine (k1.out _ hB3.out).mono ?_
  intro e w4 hp
  cases hS : termsT ls with
  | none =>
    obtain ⟨rfl, hb4⟩ := SubPost_n hp hS
    obtain ⟨rfl, rfl⟩ := hfalse.out (apR_n1 hS)
    have hx4 := hx3.out.below hb4
    have Q1 := hx4.1; have Q2 := hx4.2
    have hB4 := hd (hB3.out.next hb4)
    clear hp hb4 hx4 k1
    generalize (termT l).isSome = ok at *
    cases ok <;> (
      go_wp2_with fail
      refine bodyPost_ret (v := .tuple #[.agg #[.slice none 0 0], .bool false]) (by simp [results, Try.results18, go_sem, Q1]) rfl ⟨_, none, rfl, OwnR.nil, ?_⟩
      exact hB4.out.setCell (by simp) _)
  | some ts =>
    obtain ⟨aS, cS, rws, rfl, hOs, hrn, hRs, hb4⟩ := SubPost_s hp hS
    have hx4 := hd (hx3.out.below hb4)
    have hB4 := hd (hB3.out.next hb4)
    have hX4 := hd (hX3.out.below hb4)
    have hR4 := hd (fun t ht => RepZ.same (S' := fun q => q < w4.heap.size) (SameS.below hb4 (fun q h => h)) (fun q h => Nat.lt_of_lt_of_le h hb4.size) _ _ (hR3.out t ht))
    have hz4 : w.heap.size + 2 ≤ w4.heap.size := by have := hb4.size; omega
    clear hp hb4 k1 hx3 hR3 hX3
    cases hT : termT l with
    | none =>
      obtain ⟨rfl, rfl⟩ := hfalse.out (apR_n0 hT)
      have Q1 := hx4.out.1; have Q2 := hx4.out.2
      go_wp2_with fail
      refine bodyPost_ret (v := .tuple #[.agg #[.slice none 0 0], .bool false]) (by simp [results, Try.results18, go_sem, Q1]) rfl ⟨_, none, rfl, OwnR.nil, ?_⟩
      exact hB4.out.setCell (by simp) _
    | some t =>
      by_cases h6 : ls.length = 6
      · have hbt : bb = true := by rw [← hbb, h6]; rfl
        subst hbt
        have h6r := hd h6
        have hap := apR_s hT hS h6
        have hgt := termT_goodA hT
        have htn := termsT_len hS
        have hr6 : rws.length = 6 := by omega
        have hcnt := apK_count (s := sub6 ts) (m := 30) (by omega) (fun o o1 o6 => by
          obtain ⟨i, rfl⟩ : ∃ i : Nat, o = (i : Int) + 1 := ⟨(o - 1).toNat, by omega⟩
          rw [sub6_at (by omega)]
          exact (termT_goodA (htn.2 i (by omega) (by omega))).1) hgt.2
        obtain ⟨g, cg, e1, hg1, hg2⟩ := hOs.addr (by intro e; rw [e] at hr6; simp at hr6)
        rw [h6, hr6] at e1
        rw [h6] at hOs ⊢
        cases e1
        have ca := hd (apply_s (sub6 ts) g cS rws hr6 t _ w4 (fun q => q < w4.heap.size) (fun q h => h) (fun i h j u hu => (hOs.cell (List.getElem?_eq_getElem h) hu).1)
          (fun i h => by rw [sub6_at (by omega)]; exact hRs i (by omega) h) (by omega) hgt.2 (hR4.out t hT))
        have hcb : countK (apK (sub6 ts) t) ≤ 1000000 := by omega
        replace hap := hd hap
        clear hgt htn hcnt hOs hRs hrn hr6 hS hT h6 hbb hR4
        generalize apK (sub6 ts) t = T9 at *
        have x0 := hX4.out.1 0 _ rfl; have x1 := hX4.out.1 1 _ rfl; have x2 := hX4.out.1 2 _ rfl
        go_wp2_with fail
        refine ca.out.mono ?_
        rintro e w9 ⟨v9, n9, a9, m9, c9, rfl, hR9, hb9⟩
        have hb10 := hd (below_a1 w9 (a := .cells #[.int .i64 v9, .string n9, .slice a9 m9 c9] 91))
        have hX10 := hd (BoxN.new w9 [.int .i64 v9, .string n9, .slice a9 m9 c9] 91)
        change Hd (BoxN (w9.alloc (.cells #[.int .i64 v9, .string n9, .slice a9 m9 c9] 91)) _ _) at hX10
        have hR10 := hd (RepZ.same (S' := fun q => q < (w9.alloc (.cells #[.int .i64 v9, .string n9, .slice a9 m9 c9] 91)).heap.size) (SameS.below hb10.out (fun q h => h.elim (fun h => Nat.lt_of_lt_of_le h hb9.size) (fun h => h.2))) (fun q h => Nat.lt_of_lt_of_le (h.elim (fun h => Nat.lt_of_lt_of_le h hb9.size) (fun h => h.2)) hb10.out.size) _ _ hR9)
        have hx9 := hd (hx4.out.below hb9)
        have hB9 := hd (hB4.out.next hb9)
        clear hR9 hb9 hx4 hB4 x0 x1 x2
        go_upto_region 6 with (fail)
        generalize w9.alloc (.cells #[.int .i64 v9, .string n9, .slice a9 m9 c9] 91) = W10 at *
        have hB10 := hd (hB9.out.next hb10.out)
        have hx10 := hd (hx9.out.below hb10.out)
        have x0 := hX10.out.1 0 _ rfl; have x1 := hX10.out.1 1 _ rfl; have x2 := hX10.out.1 2 _ rfl
        have cz := hd (size6_s T9 _ W10 _ (fun q h => h) hcb hR10.out)
        have co := hd (fun w' (hw : Below W10.heap.size W10 w') => of6_s T9 _ w' (fun q => q < W10.heap.size) (fun q h => Nat.lt_of_lt_of_le h hw.size) hcb (RepZ.same (SameS.below hw (fun q h => h)) (fun _ h => h) _ _ hR10.out))
        have hlen := hd (flK_len T9)
        by_cases h30 : countK T9 ≤ 30
        · have hI : ¬ (30 : Int) < ((countK T9 : Nat) : Int) := by omega
          obtain ⟨hr1, rfl⟩ : flK T9 = r ∧ b = true := by
            have h := hr.out
            rw [hap.out, if_pos h30] at h
            cases b with
            | true => exact ⟨by simpa using h, rfl⟩
            | false => simp at h
          rw [hr1] at co
          clear hR10 hcb
          generalize countK T9 = n10 at *
          go_wp2_with fail
          refine cz.out.mono ?_
          rintro e w11 ⟨rfl, hb11⟩
          have X11 := hd (hX10.out.below hb11)
          have hB11 := hd (hB10.out.next hb11)
          have hx11 := hd (hx10.out.below hb11)
          have co11 := hd (co.out _ hb11)
          clear hb11 x0 x1 x2
          have x0 := X11.out.1 0 _ rfl; have x1 := X11.out.1 1 _ rfl; have x2 := X11.out.1 2 _ rfl
          go_wp2_with fail
          refine co11.out.mono ?_
          rintro e w12 ⟨v12, rb, rfl, ho12, hb12⟩
          obtain ⟨a3, c3, rfl, hjk⟩ := ho12.sl
          clear hjk
          simp only [List.length_map] at ho12 ⊢
          have hx12 := hx11.out.below hb12
          have Q1 := hx12.1; have Q2 := hx12.2
          have hB12 := hd (hB11.out.next hb12)
          have hz12 := hx11.out.lt
          have hz11 := hB11.out.size
          replace ho12 := hd ho12
          clear hb12 hx12
          go_wp2_with fail
          exact bodyPost_ret (v := .tuple #[.agg #[.slice a3 r.length c3], .bool true]) (by simp [results, Try.results18, go_sem, Q1]) rfl (AggbPost.ofA (rb := rb) (ownR_storeA ho12.out (by omega) hz12) (hB12.out.setCell (by simp) _))
        · have hI : (30 : Int) < ((countK T9 : Nat) : Int) := by omega
          obtain ⟨rfl, rfl⟩ : r = [] ∧ b = false := by
            have h := hr.out
            rw [hap.out, if_neg h30] at h
            cases b with
            | true => simp at h
            | false => exact ⟨hr0.out rfl, rfl⟩
          clear hR10 hcb
          generalize countK T9 = n10 at *
          go_wp2_with fail
          refine cz.out.mono ?_
          rintro e w11 ⟨rfl, hb11⟩
          have hB11 := hd (hB10.out.next hb11)
          have hx11 := hx10.out.below hb11
          have Q1 := hx11.1; have Q2 := hx11.2
          clear hb11 hx11
          go_wp2_with fail
          refine bodyPost_ret (v := .tuple #[.agg #[.slice none 0 0], .bool false]) (by simp [results, Try.results18, go_sem, Q1]) rfl ⟨_, none, rfl, OwnR.nil, ?_⟩
          exact hB11.out.setCell (by simp) _
      · obtain ⟨rfl, rfl⟩ := hfalse.out (apR_n2 h6)
        have hbt : bb = false := by rw [← hbb]; simp; omega
        subst hbt
        have Q1 := hx4.out.1; have Q2 := hx4.out.2
        go_wp2_with fail
        refine bodyPost_ret (v := .tuple #[.agg #[.slice none 0 0], .bool false]) (by simp [results, Try.results18, go_sem, Q1]) rfl ⟨_, none, rfl, OwnR.nil, ?_⟩
        exact hB4.out.setCell (by simp) _
end Go.Proofs.Ytbjilpemckoioaa
