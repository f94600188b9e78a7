/- Terms for variables: l6Apply of the reference. -/
import Derived.Test.YtbjilpemckoioaaApJ
namespace Go.Proofs.Ytbjilpemckoioaa
open Go.RowKit
set_option linter.unusedVariables false
set_option maxRecDepth 100000
theorem nodeZS {w wr : World} {rb xb E B : Nat} {v : Int} {nm : ByteArray} {ks : List K} {rws : List (List Value)} {sk : Value} {S : Nat → Prop} (hSw : ∀ q, S q → q < w.heap.size) (hrb : rb < wr.heap.size) (hw : w.heap.size ≤ rb) (hO : Own wr B E 3 sk rws) (hB : rb < B) (hS : SepZ HT 3 wr (fun b => S b ∨ rb < b) xb sk ks rws) :
    RepZ HT 3 (setCells wr rb 0 [.int .i64 v, .string nm, sk]) (fun q => S q ∨ NewB w (setCells wr rb 0 [.int .i64 v, .string nm, sk]) q) (tmK v nm ks) [.int .i64 v, .string nm, sk] := by
  have hg := grownBy_setCells rb [.int .i64 v, .string nm, sk] wr 0
  have h1 : RepZ HT 3 wr (fun b => (S b ∨ rb < b) ∧ b < wr.heap.size) (tmK v nm ks) [.int .i64 v, .string nm, sk] := by
    refine RepZ.mk (H := HT) (t := tmK v nm ks) (XSlS.own hO (fun g hg => ?_)) ?_
    · have := hO.lt g hg
      exact ⟨.inr (by omega), this.2⟩
    · exact hS.rep
  refine RepZ.same (SameS.grown hg (fun b hb => hb.2) (fun b hb e => ?_)) (fun b hb => ?_) _ _ h1
  · have e : b = rb := Option.some.inj e
    rcases hb.1 with h | h
    · have := hSw b h; omega
    · omega
  · rcases hb.1 with h | h
    · exact .inl h
    · exact .inr ⟨by omega, Nat.lt_of_lt_of_le hb.2 hg.size⟩
def ApPostS (T : K) (S : Nat → Prop) (w : World) (e : Ending) (w' : World) : Prop :=
  ∃ (v : Int) (nm : ByteArray) (a : Option Addr) (n c : Nat), e = .returned (.agg #[.int .i64 v, .string nm, .slice a n c]) ∧ RepZ HT 3 w' (fun q => S q ∨ NewB w w' q) T [.int .i64 v, .string nm, .slice a n c] ∧ Below w.heap.size w w'
set_option maxHeartbeats 12800000 in
theorem apply_s (s : Int → K) (g cg : Nat) (sr : List (List Value)) (hl6 : sr.length = 6) (t : K) : ∀ (r : List Value) (w : World) (S : Nat → Prop), (∀ q, S q → q < w.heap.size) → (∀ i (h : i < sr.length) j u, sr[i][j]? = some u → w.cell? ⟨g, i * 3 + j, none⟩ = some u) →
    (∀ (i : Nat) (h : i < sr.length), RepZ HT 3 w S (s ((i : Int) + 1)) sr[i]) → countK t ≤ 1000 → TmOk t → RepZ HT 3 w S t r →
    Calls Try.prog 59 #[.agg r.toArray, .slice (some ⟨g, 0, none⟩) 6 cg] w (ApPostS (apK s t) S w) := by
  refine K.ind2 (P := fun t => ∀ (r : List Value) (w : World) (S : Nat → Prop), (∀ q, S q → q < w.heap.size) → (∀ i (h : i < sr.length) j u, sr[i][j]? = some u → w.cell? ⟨g, i * 3 + j, none⟩ = some u) →
    (∀ (i : Nat) (h : i < sr.length), RepZ HT 3 w S (s ((i : Int) + 1)) sr[i]) → countK t ≤ 1000 → TmOk t → RepZ HT 3 w S t r →
    Calls Try.prog 59 #[.agg r.toArray, .slice (some ⟨g, 0, none⟩) 6 cg] w (ApPostS (apK s t) S w)) ?_ t
  intro t ih ra w S hSw hgv hsv hc hok hA
  obtain ⟨aA, cA, rwA, rfl, hSA, hlA, hgA⟩ := hA.openT
  have hof := hok.ofA
  have hap := apK_eq s t
  have hla : t.parts.length ≤ 1000 := by have h1 := len_count t.parts; have h2 := countK_eq t; omega
  have hqa := hd (fun p (hp : p ∈ t.parts) => (show countK p ≤ 1000 ∧ TmOk p from ⟨by have h1 := count_part hp; have h2 := countK_eq t; omega, hok.partA hp⟩))
  obtain ⟨T, hT⟩ : ∃ T, apK s t = T := ⟨_, rfl⟩
  rw [hT] at hap ⊢
  clear hA hT hok
  have hX := hd (show BoxN ((w.alloc (.cells #[.int .i64 t.of, .string t.name, .slice aA t.parts.length cA] 91)).alloc (.cells #[.int .i64 0, .string ⟨#[]⟩, .slice none 0 0] 91)) w.heap.size [.int .i64 t.of, .string t.name, .slice aA t.parts.length cA] from (BoxN.new w _ _).below (below_a1 _))
  have hXr := hd (show BoxN ((w.alloc (.cells #[.int .i64 t.of, .string t.name, .slice aA t.parts.length cA] 91)).alloc (.cells #[.int .i64 0, .string ⟨#[]⟩, .slice none 0 0] 91)) (w.heap.size + 1) [.int .i64 0, .string ⟨#[]⟩, .slice none 0 0] from by
    have := BoxN.new (w.alloc (.cells #[.int .i64 t.of, .string t.name, .slice aA t.parts.length cA] 91)) [.int .i64 0, .string ⟨#[]⟩, .slice none 0 0] 91
    rwa [World.size_alloc] at this)
  have hbW := hd (below_a2 w (a := .cells #[.int .i64 t.of, .string t.name, .slice aA t.parts.length cA] 91) (b := .cells #[.int .i64 0, .string ⟨#[]⟩, .slice none 0 0] 91))
  have hsW : ((w.alloc (.cells #[.int .i64 t.of, .string t.name, .slice aA t.parts.length cA] 91)).alloc (.cells #[.int .i64 0, .string ⟨#[]⟩, .slice none 0 0] 91)).heap.size = w.heap.size + 2 := by simp
  by_cases h1 : 0 < t.of
  · rw [if_pos h1] at hap
    obtain ⟨i, hi⟩ : ∃ i : Nat, t.of = (i : Int) + 1 := ⟨(t.of - 1).toNat, by omega⟩
    have hi6 : i < 6 := by omega
    have hiI : (i : Int) < 6 := by omega
    have hR := hsv i (by omega)
    have hcl := hgv i (by omega)
    rw [hi] at hX hXr hbW hsW hap h1 ⊢
    rw [← hap] at hR
    obtain ⟨aT, cT, rT, e1, hjk⟩ := hR.openT
    rw [e1] at hR hcl
    have q0 := keepCell hbW.out (show w.cell? ⟨g, i * 3, none⟩ = _ from hcl 0 _ rfl)
    have q1 := keepCell hbW.out (hcl 1 _ rfl)
    have q2 := keepCell hbW.out (hcl 2 _ rfl)
    replace hR := hd hR
    clear ih hgv hsv hSA hgA hqa e1 hjk hlA hap hi hcl
    go_enter Try.func59, Try.ntmps59
    go_upto_region 1 with (fail)
    generalize (w.alloc (.cells #[.int .i64 ((i : Int) + 1), .string t.name, .slice aA t.parts.length cA] 91)).alloc (.cells #[.int .i64 0, .string ⟨#[]⟩, .slice none 0 0] 91) = W at *
    have hgf := hd (grownBy_setCells (w.heap.size + 1) [.int .i64 T.of, .string T.name, .slice aT T.parts.length cT] W 0)
    have hbf := hd (hbW.out.grown hgf.out hbW.out.size (fun g hg => by cases hg; omega))
    have hRf := hd (RepZ.same (SameS.below hbf.out hSw) (fun q h => (.inl h : S q ∨ NewB w (setCells W (w.heap.size + 1) 0 [.int .i64 T.of, .string T.name, .slice aT T.parts.length cT]) q)) _ _ hR.out)
    have x0 := hX.out.1 0 _ rfl; have x1 := hX.out.1 1 _ rfl; have x2 := hX.out.1 2 _ rfl
    have z0 := hXr.out.1 0 _ rfl; have rz0 := hXr.out.2.1 0; have z1 := hXr.out.1 1 _ rfl; have rz1 := hXr.out.2.1 1; have z2 := hXr.out.1 2 _ rfl; have rz2 := hXr.out.2.1 2
    go_wp2_with fail
    exact bodyPost_ret (v := .agg #[.int .i64 T.of, .string T.name, .slice aT T.parts.length cT]) (by simp [results, Try.results59, go_sem, z0, z1, z2]) rfl ⟨_, _, _, _, _, rfl, hRf.out, hbf.out⟩
  · rw [if_neg h1] at hap
    have h0 : t.of = 0 := by omega
    obtain ⟨i0, hi0, hz0, hz1, hz2⟩ := info_parts infoTv
    have Hi := hd hi0; have Hz0 := hd hz0; have Hz1 := hd hz1; have Hz2 := hd hz2
    clear hi0 hz0 hz1 hz2 h1 hof
    rw [h0] at hX hXr hbW hsW ⊢
    replace h0 := hd h0
    replace ih := hd ih
    replace hSw := hd hSw
    replace hgv := hd hgv
    replace hsv := hd hsv
    replace hlA := hd hlA
    replace hgA := hd hgA
    replace hap := hd hap
    generalize hnm : t.name = nm at *
    replace hnm := hd hnm
    go_enter Try.func59, Try.ntmps59
    go_upto_region 1 with (fail)
    generalize (w.alloc (.cells #[.int .i64 0, .string nm, .slice aA t.parts.length cA] 91)).alloc (.cells #[.int .i64 0, .string ⟨#[]⟩, .slice none 0 0] 91) = W at *
    have hXn := hd (BoxN.new W [.int .i64 0, .string nm, .slice none 0 0] 91)
    have hal := hd (below_a1 W (a := .cells #[.int .i64 0, .string nm, .slice none 0 0] 91))
    change Hd (BoxN (W.alloc (.cells #[.int .i64 0, .string nm, .slice none 0 0] 91)) _ _) at hXn
    rw [hsW] at hXn
    have hs4 : (W.alloc (.cells #[.int .i64 0, .string nm, .slice none 0 0] 91)).heap.size = w.heap.size + 3 := by rw [World.size_alloc, hsW]
    have x0 := hX.out.1 0 _ rfl; have x1 := hX.out.1 1 _ rfl; have x2 := hX.out.1 2 _ rfl
    go_upto_region 4 with (fail)
    clear x0 x1 x2
    generalize W.alloc (.cells #[.int .i64 0, .string nm, .slice none 0 0] 91) = W4 at *
    have hB4 := hd (hbW.out.next hal.out)
    have hX4 := hd (hX.out.below hal.out)
    have hXr4 := hd (hXr.out.below hal.out)
    have x0 := hX4.out.1 0 _ rfl; have x1 := hX4.out.1 1 _ rfl; have x2 := hX4.out.1 2 _ rfl
    go_wp2_with fail
    clear x0 x1 x2
    go_loopw [23] (fun i wr => ∃ (k : Nat) (rws : List (List Value)) (sk : Value), i = .int .i64 k ∧ k ≤ t.parts.length ∧ rws.length = k ∧ Hd (BoxN wr (w.heap.size + 2) [.int .i64 0, .string nm, sk]) ∧ Hd (Own wr (w.heap.size + 3) 91 3 sk rws) ∧ Hd (SepZ HT 3 wr (fun b => S b ∨ w.heap.size + 1 < b) (w.heap.size + 2) sk ((t.parts.take k).map (apK s)) rws) ∧ Hd (W4.grownBy wr (some (w.heap.size + 2)))) (fun i _ => t.parts.length - (intOf i).toNat)
    case atStart => exact ⟨0, [], .slice none 0 0, rfl, Nat.zero_le _, rfl, hXn, Own.nil, by rw [List.take_zero]; exact SepZ.nil, grownBy_refl _ _⟩
    case round =>
      obtain ⟨k, rws, sk, rfl, hk, hrl, hXb, hO, hSep, hG⟩ := hrel
      obtain ⟨wo, rfl⟩ : ∃ wo : World, wo = wr := ⟨_, rfl⟩
      have hbl := hd (hB4.out.grown hG.out hB4.out.size (fun g hg => by cases hg; omega))
      have hXo := hd (hXr4.out.grown hG.out (fun e => by have := Option.some.inj e; omega))
      by_cases hlt : k < t.parts.length
      · have hltI : (k : Int) < (t.parts.length : Int) := by omega
        have hkA : k < rwA.length := by have := hlA.out; omega
        obtain ⟨b1, rfl, hb1, hc1⟩ := hSA.at (j := k) hkA
        have hws := SameS.below hbl.out hSw.out
        have rx := RepZ.same hws (fun _ h => h) _ _ (hgA.out k hlt hkA)
        obtain ⟨aX, cX, rX, hrX, hj1⟩ := rx.openT
        clear hj1
        have q1 := hc1 k hkA
        rw [hrX] at q1 rx
        have hxm := hqa.out _ (List.getElem_mem hlt)
        have ck := hd (fun w' (hw : Below wo.heap.size wo w') => ih.out t.parts[k] (List.getElem_mem hlt) _ w' S (fun q h => Nat.lt_of_lt_of_le (hSw.out q h) (Nat.le_trans hbl.out.size hw.size)) (fun i h j u hu => keepCell hw (keepCell hbl.out (hgv.out i h j u hu)))
          (fun i h => RepZ.same (SameS.below hw (fun q h => Nat.lt_of_lt_of_le (hSw.out q h) hbl.out.size)) (fun _ h => h) _ _ (RepZ.same hws (fun _ h => h) _ _ (hsv.out i h))) hxm.1 hxm.2 (RepZ.same (SameS.below hw (fun q h => Nat.lt_of_lt_of_le (hSw.out q h) hbl.out.size)) (fun _ h => h) _ _ rx))
        have d0 := keepCell hbl.out (show w.cell? ⟨b1, k * 3, none⟩ = _ from q1 0 _ rfl)
        have d1 := keepCell hbl.out (q1 1 _ rfl)
        have d2 := keepCell hbl.out (q1 2 _ rfl)
        obtain ⟨ao, co, rfl, hjk2⟩ := hO.out.sl
        rw [hrl] at hO hXb hSep
        have hstep := hd (show (t.parts.take (k + 1)).map (apK s) = (t.parts.take k).map (apK s) ++ [apK s t.parts[k]] from by rw [List.take_succ_eq_append_getElem hlt, List.map_append]; rfl)
        have hzl := hbl.out.size
        clear hc1 hjk2 hxm hws q1 hrX rx
        generalize apK s t.parts[k] = Tk at *
        generalize t.parts[k] = p at *
        have hX5 := hd (BoxN.new wo [.int .i64 p.of, .string p.name, .slice aX p.parts.length cX] 91)
        have hb5 := hd (below_a1 wo (a := .cells #[.int .i64 p.of, .string p.name, .slice aX p.parts.length cX] 91))
        change Hd (BoxN (wo.alloc (.cells #[.int .i64 p.of, .string p.name, .slice aX p.parts.length cX] 91)) _ _) at hX5
        go_upto_region 7 with (fail)
        generalize wo.alloc (.cells #[.int .i64 p.of, .string p.name, .slice aX p.parts.length cX] 91) = W5 at *
        clear d0 d1 d2
        have hXb5 := hd (hXb.out.below hb5.out)
        have hO5 := hd (hO.out.below hb5.out)
        have hS5 := hd (hSep.out.below hb5.out)
        have hz5 := hb5.out.size
        have hzb := hXb.out.2.2
        have y2 := hXb5.out.1 2 _ rfl
        have z0 := hX5.out.1 0 _ rfl; have rz0 := hX5.out.2.1 0; have z1 := hX5.out.1 1 _ rfl; have rz1 := hX5.out.2.1 1; have z2 := hX5.out.1 2 _ rfl; have rz2 := hX5.out.2.1 2
        go_region_law ((first
          | (go_simp; go_at_call 59; refine (ck.out _ (by first | exact hb5.out | exact hb5.out.drew)).mono ?_; rintro e w7 ⟨v7, n7, a7, m7, c7, rfl, hR7, hb7⟩; have y7 := keepCell hb7 y2; have y8 := fun o => keepCell (below_a1 w7 (a := o)) y7; have hz7 : W5.heap.size ≤ w7.heap.size := hb7.size; have hX7 := hd ((hXb5.out.below (Below.refl _ _).drew).below hb7); have hO7 := hd ((hO5.out.below (Below.refl _ _).drew).below hb7))
          | (refine step_appOwn (by rfl) _ _ _ (by rfl) (w.heap.size + 3) 91 i0 _ 3 48 Try.underlying89 Hi.out Hz0.out Hz1.out Hz2.out (by rfl) (by decide) _ rws [[.int .i64 v7, .string n7, .slice a7 m7 c7]] (by rfl) (by exact hO7.out.below (below_a1 _)) _ 1 _ (by rfl) (by rfl) (one_row rfl) (cells_new _ _ _) rowT_one (by omega) (by decide) (by simp; omega) ?_; intro s6 w6 ho6 hg6 hv6; obtain ⟨a6, c6, hs6, hjk⟩ := ho6.sl; clear hjk; rw [List.length_append, List.length_singleton, hrl] at hs6; subst hs6; have hX6 := hd ((hX7.out.below (below_a1 _)).grown hg6 (by intro e; have := (hO7.out.lt _ e.symm).1; omega)); have y6 := hX6.out.1 2 _ rfl; have r6 := hX6.out.2.1 2)))
        all_goals
          have hne6 : ∀ g, (Value.slice a6 (k + 1) c6).ownBlock = some g → w.heap.size + 3 ≤ g := fun g hg => (ho6.lt g hg).1
          have hX8 := hd (hX6.out.set (i := 2) (by simp) (.slice a6 (k + 1) c6))
          have hg8 : w6.grownBy (w6.setCell ⟨w.heap.size + 2, 2, none⟩ (.slice a6 (k + 1) c6)) (some (w.heap.size + 2)) := grownBy_setCell w6 ⟨w.heap.size + 2, 2, none⟩ (.slice a6 (k + 1) c6)
          have hO8 := hd (ho6.kept hg8 (.inr (fun e => by have : w.heap.size + 3 ≤ w.heap.size + 2 := hne6 _ e; omega)))
          have hb57 := hd ((hb5.out.drew).next hb7)
          have hS7 := hd (((hS5.out.below (Below.refl _ _).drew).below hb7).snoc hR7 (fun b hb => by
            rcases hb with hb | hb
            · have h1 := hSw.out b hb
              have h2 := hb57.out.size
              exact ⟨.inl hb, by omega, by omega, fun e => by have := (hO7.out.lt b e).1; omega⟩
            · have h1 : W5.heap.size ≤ b := hb.1
              have h3 := hXb5.out.2.2
              exact ⟨.inr (by omega), hb.2, by omega, fun e => by have := (hO5.out.lt b e).2; omega⟩))
          have hS6 := hd ((hS7.out.below (below_a1 _)).grown hg6 (.inr (.inr rfl)) (s' := .slice a6 (k + 1) c6) (hv6.imp id (fun e g hg => by rw [e] at hg; cases hg; exact Nat.le_refl _)))
          have hS8 := hd (hS6.out.grown hg8 (.inr (.inl rfl)) (s' := .slice a6 (k + 1) c6) (.inl rfl))
          have hG7 := grownBy_trans hG.out (below_grownBy hb57.out (some (w.heap.size + 2))) (.inl rfl)
          have hG9 := hd (grownBy_trans (grownBy_trans (grownBy_trans hG7 (below_grownBy (below_a1 w7 (a := _)) (some (w.heap.size + 2))) (.inl rfl)) hg6 (.inr (fun g hg => by have := (hO.out.lt g hg).1; have := hB4.out.size; omega))) hg8 (.inl rfl))
          rw [← hstep.out] at hS8
          clear hR7 hb7 hv6 hg6 ho6 y2 y6 r6 y7 y8 hG7 hg8
          go_wp2_with fail
          go_roundw
          case rel => exact ⟨k + 1, rws ++ [[.int .i64 v7, .string n7, .slice a7 m7 c7]], .slice a6 (k + 1) c6, by go_num, by omega, by simp [hrl], hX8, hO8, hS8, hG9⟩
          case measure => simp [intOf]; omega
      · obtain rfl : k = t.parts.length := by omega
        have hltI : ¬ (t.parts.length : Int) < (t.parts.length : Int) := by omega
        rw [List.take_length] at hSep
        have hnode := hd (nodeZS (w := w) (rb := w.heap.size + 1) (v := 0) (nm := nm) hSw.out hXo.out.2.2 (by omega) hO.out (by omega) hSep.out)
        rw [← hap.out] at hnode
        obtain ⟨aS, cS, rfl, hjk⟩ := hO.out.sl
        clear hjk
        rw [hrl] at hnode hXb
        replace hrl := hd hrl
        have hgf := hd (grownBy_setCells (w.heap.size + 1) [.int .i64 0, .string nm, .slice aS t.parts.length cS] wo 0)
        have hbf := hd (hbl.out.grown hgf.out hbl.out.size (fun g hg => by cases hg; omega))
        have y0 := hXb.out.1 0 _ rfl; have y1 := hXb.out.1 1 _ rfl; have y2 := hXb.out.1 2 _ rfl
        have z0 := hXo.out.1 0 _ rfl; have rz0 := hXo.out.2.1 0; have z1 := hXo.out.1 1 _ rfl; have rz1 := hXo.out.2.1 1; have z2 := hXo.out.1 2 _ rfl; have rz2 := hXo.out.2.1 2
        go_wp2_with fail
        exact bodyPost_ret (v := .agg #[.int .i64 0, .string nm, .slice aS t.parts.length cS]) (by simp [results, Try.results59, go_sem, z0, z1, z2]) rfl ⟨_, _, _, _, _, rfl, hnode.out, hbf.out⟩
end Go.Proofs.Ytbjilpemckoioaa
