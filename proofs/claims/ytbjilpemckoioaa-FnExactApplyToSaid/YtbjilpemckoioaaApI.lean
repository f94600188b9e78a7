/- Terms for variables: apply of the program. -/
import Derived.Test.YtbjilpemckoioaaApZ
import Derived.Deep.RegionLaw
namespace Go.Proofs.Ytbjilpemckoioaa
open Go.RowKit
set_option linter.unusedVariables false
set_option maxRecDepth 100000
theorem nodeYS {w wr : World} {xb E B : Nat} {v : Int} {nm : ByteArray} {ks : List K} {vs : List Value} {sk : Value} {S : Nat → Prop} (hX : BoxN wr xb [.int .i64 v, .string nm, sk]) (hx : w.heap.size ≤ xb) (hO : Own wr B E 1 sk (vs.map encV)) (hB : w.heap.size ≤ B) (hS : SepY HT wr (fun b => S b ∨ w.heap.size ≤ b) xb sk ks vs) :
    RepY HT wr (fun q => S q ∨ NewB w wr q) (tmK v nm ks) (.pointer (some ⟨xb, 0, none⟩)) := by
  refine RepY.mk (s := sk) (vs := vs) (.inr ⟨hx, hX.2.2⟩) (fun j u hu => hX.1 j u hu) (PSlS.own hO (fun g hg => ?_)) ?_
  · have := hO.lt g hg
    exact .inr ⟨by omega, this.2⟩
  · exact hS.rep.all (SameS.refl _ _) (fun b hb => hb.1.imp id fun h => ⟨h, hb.2⟩)
/-- What ApplyTo's own function of a variable does. -/
theorem of_i (bx g : Nat) (vs : List Value) (w : World) (i : Nat) (hi : i < 6) (hl : vs.length = 6) (hb : w.cell? ⟨bx, 0, none⟩ = some (.slice (some ⟨g, 0, none⟩) 6 6)) (hg : ∀ i (h : i < vs.length), w.cell? ⟨g, i, none⟩ = some vs[i]) :
    Calls Try.prog 63 #[.int .i64 ((i : Int) + 1), .pointer (some ⟨bx, 0, none⟩)] w (fun e w' => e = .returned (vs[i]'(by omega)) ∧ w' = w) := by
  have q := hg i (by omega)
  have hiI : (i : Int) < 6 := by omega
  clear hg
  generalize vs[i]'(by omega) = u at *
  go_enter Try.func63, Try.ntmps63
  go_wp2_with fail
  go_ret
  exact ⟨rfl, rfl⟩
def ApPost (T : K) (S : Nat → Prop) (w : World) (e : Ending) (w' : World) : Prop :=
  ∃ b, e = .returned (.pointer (some ⟨b, 0, none⟩)) ∧ RepY HT w' (fun q => S q ∨ NewB w w' q) T (.pointer (some ⟨b, 0, none⟩)) ∧ Below w.heap.size w w'
set_option maxHeartbeats 12800000 in
theorem apply_i (s : Int → K) (bx g : Nat) (vs : List Value) (hl6 : vs.length = 6) (t : K) : ∀ (v : Value) (w : World) (S : Nat → Prop), (∀ q, S q → q < w.heap.size) → w.cell? ⟨bx, 0, none⟩ = some (.slice (some ⟨g, 0, none⟩) 6 6) → (∀ i (h : i < vs.length), w.cell? ⟨g, i, none⟩ = some vs[i]) →
    (∀ (i : Nat) (h : i < vs.length), RepY HT w S (s ((i : Int) + 1)) vs[i]) → countK t ≤ 1000 → TmOk t → RepY HT w S t v →
    Calls Try.prog 62 #[v, .func (.func 63) #[] #[.pointer (some ⟨bx, 0, none⟩)]] w (ApPost (apK s t) S w) := by
  refine K.ind2 (P := fun t => ∀ (v : Value) (w : World) (S : Nat → Prop), (∀ q, S q → q < w.heap.size) → w.cell? ⟨bx, 0, none⟩ = some (.slice (some ⟨g, 0, none⟩) 6 6) → (∀ i (h : i < vs.length), w.cell? ⟨g, i, none⟩ = some vs[i]) →
    (∀ (i : Nat) (h : i < vs.length), RepY HT w S (s ((i : Int) + 1)) vs[i]) → countK t ≤ 1000 → TmOk t → RepY HT w S t v →
    Calls Try.prog 62 #[v, .func (.func 63) #[] #[.pointer (some ⟨bx, 0, none⟩)]] w (ApPost (apK s t) S w)) ?_ t
  intro t ih v w S hSw hbx hgv hsv hc hok hA
  obtain ⟨bA, aA, cA, vsA, rfl, hbA, hxA, hSA, hlA, hgA⟩ := hA.open
  have x0 := hxA 0 _ rfl
  have x1 := hxA 1 _ rfl
  have x2 := hxA 2 _ rfl
  change w.cell? ⟨bA, 0, none⟩ = some (.int .i64 t.of) at x0
  change w.cell? ⟨bA, 1, none⟩ = some (.string t.name) at x1
  change w.cell? ⟨bA, 2, none⟩ = some (.slice aA t.parts.length cA) at x2
  have hof := hok.ofA
  have hap := apK_eq s t
  have hla : t.parts.length ≤ 1000 := by have h1 := len_count t.parts; have h2 := countK_eq t; omega
  have hqa := hd (fun p (hp : p ∈ t.parts) => (show countK p ≤ 1000 ∧ TmOk p from ⟨by have h1 := count_part hp; have h2 := countK_eq t; omega, hok.partA hp⟩))
  obtain ⟨T, hT⟩ : ∃ T, apK s t = T := ⟨_, rfl⟩
  rw [hT] at hap ⊢
  clear hA hxA hT hok
  by_cases h1 : 0 < t.of
  · rw [if_pos h1] at hap
    obtain ⟨i, hi⟩ : ∃ i : Nat, t.of = (i : Int) + 1 := ⟨(t.of - 1).toNat, by omega⟩
    have hi6 : i < 6 := by omega
    rw [hi] at x0 hap h1
    have cf := hd (of_i bx g vs w i hi6 hl6 hbx hgv)
    have hR := hsv i (by omega)
    rw [← hap] at hR
    obtain ⟨bp, _, _, _, e1, hjk⟩ := hR.open
    rw [e1] at hR cf
    have hfin := hd (show ApPost T S w (.returned (.pointer (some ⟨bp, 0, none⟩))) w from ⟨bp, rfl, RepY.same (SameS.refl _ _) (fun q h => .inl h) _ _ hR, Below.refl _ _⟩)
    clear ih hgv hsv hSA hgA hqa hR e1 hjk hlA hap hi
    go_enter Try.func62, Try.ntmps62
    go_wp2_with fail
    refine cf.out.mono ?_
    rintro e w2 ⟨rfl, rfl⟩
    go_wp2_with fail
    go_ret
    exact hfin.out
  · rw [if_neg h1] at hap
    have h0 : t.of = 0 := by omega
    rw [h0] at x0
    replace h0 := hd h0
    obtain ⟨i0, hi0, hz0, hz1, hz2⟩ := info_parts infoTree
    have Hi := hd hi0; have Hz0 := hd hz0; have Hz1 := hd hz1; have Hz2 := hd hz2
    clear hi0 hz0 hz1 hz2 h1 hof
    have hX := hd (BoxN.new w [.int .i64 0, .string t.name, .slice none 0 0] 170)
    have hbW := hd (below_a1 w (a := .cells #[.int .i64 0, .string t.name, .slice none 0 0] 170))
    change Hd (BoxN (w.alloc (.cells #[.int .i64 0, .string t.name, .slice none 0 0] 170)) _ _) at hX
    have X2 := hd x2
    replace ih := hd ih
    replace hSw := hd hSw
    replace hbx := hd hbx
    replace hgv := hd hgv
    replace hsv := hd hsv
    replace hlA := hd hlA
    replace hgA := hd hgA
    replace hap := hd hap
    generalize hnm : t.name = nm at *
    replace hnm := hd hnm
    go_enter Try.func62, Try.ntmps62
    go_upto_region 4 with (fail)
    generalize w.alloc (.cells #[.int .i64 0, .string nm, .slice none 0 0] 170) = W at *
    have x2w := keepCell hbW.out X2.out
    clear x0 x1 x2
    go_wp2_with fail
    clear x2w
    go_loopw [30] (fun i wr => ∃ (k : Nat) (vn : List Value) (sk : Value), i = .int .i64 k ∧ k ≤ t.parts.length ∧ vn.length = k ∧ Hd (BoxN wr w.heap.size [.int .i64 0, .string nm, sk]) ∧ Hd (Own wr (w.heap.size + 1) 95 1 sk (vn.map encV)) ∧ Hd (SepY HT wr (fun b => S b ∨ w.heap.size ≤ b) w.heap.size sk ((t.parts.take k).map (apK s)) vn) ∧ Hd (Below w.heap.size w wr)) (fun i _ => t.parts.length - (intOf i).toNat)
    case atStart => exact ⟨0, [], .slice none 0 0, rfl, Nat.zero_le _, rfl, hX, Own.nil, by rw [List.take_zero]; exact SepY.nil, hbW⟩
    case round =>
      obtain ⟨k, vn, sk, rfl, hk, hvl, hXr, hO, hSep, hbl⟩ := hrel
      obtain ⟨wo, rfl⟩ : ∃ wo : World, wo = wr := ⟨_, rfl⟩
      by_cases hlt : k < t.parts.length
      · have hltI : (k : Int) < (t.parts.length : Int) := by omega
        have hkA : k < vsA.length := by have := hlA.out; omega
        obtain ⟨b1, rfl, hb1, hc1⟩ := hSA.at (j := k) hkA
        have q1 := keepCell hbl.out (hc1 k hkA)
        have hxm := hqa.out _ (List.getElem_mem hlt)
        have hws := SameS.below hbl.out hSw.out
        have ck := hd (fun w' (hw : Below wo.heap.size wo w') => ih.out t.parts[k] (List.getElem_mem hlt) vsA[k] w' S (fun q h => Nat.lt_of_lt_of_le (hSw.out q h) (Nat.le_trans hbl.out.size hw.size)) (keepCell hw (keepCell hbl.out hbx.out)) (fun i h => keepCell hw (keepCell hbl.out (hgv.out i h)))
          (fun i h => RepY.same (SameS.below hw (fun q h => Nat.lt_of_lt_of_le (hSw.out q h) hbl.out.size)) (fun _ h => h) _ _ (RepY.same hws (fun _ h => h) _ _ (hsv.out i h))) hxm.1 hxm.2 (RepY.same (SameS.below hw (fun q h => Nat.lt_of_lt_of_le (hSw.out q h) hbl.out.size)) (fun _ h => h) _ _ (RepY.same hws (fun _ h => h) _ _ (hgA.out k hlt hkA))))
        obtain ⟨pk, _, _, _, e1, hjk⟩ := (hgA.out k hlt hkA).open
        rw [e1] at q1 ck
        obtain ⟨ao, co, rfl, hjk2⟩ := hO.out.sl
        rw [List.length_map, hvl] at hO hXr hSep
        have y2 := hXr.out.1 2 _ rfl
        have hstep := hd (show (t.parts.take (k + 1)).map (apK s) = (t.parts.take k).map (apK s) ++ [apK s t.parts[k]] from by rw [List.take_succ_eq_append_getElem hlt, List.map_append]; rfl)
        have hzl := hbl.out.size
        clear hc1 e1 hjk hjk2 hxm hws
        generalize apK s t.parts[k] = Tk at *
        have hX1 := hd hXr.out.drew
        have hba := fun (w' : World) (h : Below wo.heap.size wo w') => h
        go_wp2_with fail
        go_region_law ((first
          | (go_simp; go_at_call 62; refine (ck.out _ (by first | exact Below.refl _ _ | exact (Below.refl _ _).drew)).mono ?_; rintro e w7 ⟨bp, rfl, hR7, hb7⟩; have y7 := keepCell hb7 y2; have y8 := fun o => keepCell (below_a1 w7 (a := o)) y7; have hz7 : wo.heap.size ≤ w7.heap.size := hb7.size; have hX7 := hd (hX1.out.below hb7); have hO7 := hd ((hO.out.below (Below.refl _ _).drew).below hb7))
          | (refine step_appOwn (by rfl) _ _ _ (by rfl) (w.heap.size + 1) 95 i0 _ 1 8 Try.underlying107 Hi.out Hz0.out Hz1.out Hz2.out (by rfl) (by decide) _ (vn.map encV) [encV (.pointer (some ⟨bp, 0, none⟩))] (by rfl) (by exact hO7.out.below (below_a1 _)) _ 1 _ (by rfl) (by rfl) (one_row rfl) (cells_new _ _ _) (one_ptrT bp) (by rw [List.length_map]; omega) (by decide) (by simp; omega) ?_; intro s6 w6 ho6 hg6 hv6; obtain ⟨a6, c6, hs6, hjk⟩ := ho6.sl; clear hjk; rw [List.length_append, List.length_map, List.length_singleton, hvl] at hs6; subst hs6; have hX6 := hd ((hX7.out.below (below_a1 _)).grown hg6 (by intro e; have := (hO7.out.lt _ e.symm).1; omega)); have y6 := hX6.out.1 2 _ rfl; have r6 := hX6.out.2.1 2)))
        all_goals
          have hne6 : ∀ g, (Value.slice a6 (k + 1) c6).ownBlock = some g → w.heap.size + 1 ≤ g := fun g hg => (ho6.lt g hg).1
          have hX8 := hd (hX6.out.set (i := 2) (by simp) (.slice a6 (k + 1) c6))
          have hg8 := hd (grownBy_setCell w6 ⟨w.heap.size, 2, none⟩ (.slice a6 (k + 1) c6))
          have hO8 := hd (ho6.kept hg8.out (.inr (fun e => by have : w.heap.size + 1 ≤ w.heap.size := hne6 _ e; omega)))
          have hB7 := hd (hbl.out.drew.next hb7)
          have hS7 := hd (((hSep.out.below (Below.refl _ _).drew).below hb7).snoc hR7 (fun b hb => by
            rcases hb with hb | hb
            · have h1 := hSw.out b hb
              have h2 := hB7.out.size
              exact ⟨.inl hb, by omega, by omega, fun e => by have := (hO7.out.lt b e).1; omega⟩
            · have h1 : wo.heap.size ≤ b := hb.1
              have h2 := hO.out.lt b
              have h3 := hXr.out.2.2
              exact ⟨.inr (by omega), hb.2, by omega, fun e => by have := (hO.out.lt b e).2; omega⟩))
          have hS6 := hd ((hS7.out.below (below_a1 _)).grown hg6 (.inr (.inr rfl)) (s' := .slice a6 (k + 1) c6) (hv6.imp id (fun e g hg => by rw [e] at hg; cases hg; exact Nat.le_refl _)))
          have hS8 := hd (hS6.out.grown hg8.out (.inr (.inl rfl)) (s' := .slice a6 (k + 1) c6) (.inl rfl))
          have hB6 := hd ((hB7.out.next (below_a1 _)).grown hg6 (Nat.le_trans hB7.out.size (below_a1 _).size) (fun g hg => by have := (hO7.out.lt g hg).1; omega))
          have hB8 := hd (hB6.out.grown hg8.out hB6.out.size (fun g hg => by cases hg; exact Nat.le_refl _))
          have hOe := hd (show Own (w6.setCell ⟨w.heap.size, 2, none⟩ (.slice a6 (k + 1) c6)) (w.heap.size + 1) 95 1 (.slice a6 (k + 1) c6) ((vn ++ [Value.pointer (some ⟨bp, 0, none⟩)]).map encV) from by rw [List.map_append]; exact hO8.out)
          rw [← hstep.out] at hS8
          clear hR7 hb7 hv6 hg6 ho6 y2 y6 r6 y7 y8 hX1
          go_wp2_with fail
          go_roundw
          case rel => exact ⟨k + 1, vn ++ [Value.pointer (some ⟨bp, 0, none⟩)], .slice a6 (k + 1) c6, by go_num, by omega, by simp [hvl], hX8, hOe, hS8, hB8⟩
          case measure => simp [intOf]; omega
      · obtain rfl : k = t.parts.length := by omega
        have hltI : ¬ (t.parts.length : Int) < (t.parts.length : Int) := by omega
        rw [List.take_length] at hSep
        have hnode := hd (nodeYS (w := w) (S := S) hXr.out (Nat.le_refl _) hO.out (by omega) hSep.out)
        rw [← hap.out] at hnode
        go_wp2_with fail
        go_ret
        exact ⟨_, rfl, hnode.out, hbl.out⟩
end Go.Proofs.Ytbjilpemckoioaa
