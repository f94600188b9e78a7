/- The reference's tree of a value: l4Tree. -/
import Derived.Test.YtobahkjbadamhaaKidsV
import Derived.Deep.RegionLaw
namespace Go.Proofs.Ytobahkjbadamhaa
open Go.RowKit
set_option linter.unusedVariables false
set_option maxRecDepth 100000
theorem mkV {w : World} {B : Nat} {t : K} {s : Value} {rws : List (List Value)} (h : XSl 5 w B w.heap.size s rws) (hp : RepXs HV 5 w B w.heap.size t.parts rws) : RepX HV 5 w B w.heap.size t [.int .i64 t.most, .string t.name, .int .i64 t.no, .bool t.must, s] := RepX.mk h hp
set_option maxHeartbeats 6400000 in
theorem treeV_s (l : List DNode) (b1 o1 c : Nat) (hl : l.length ≤ 1000000) (t : K) : ∀ (k : Nat) (w : World), Sb (trees l) k t → Cells w b1 o1 5 (l.map DNode.enc) → countK t ≤ 1000000 →
    Calls Try.prog 74 #[.agg #[.slice (some ⟨b1, o1, none⟩) l.length c], .int .i64 k] w (XPost HV 5 t w) := by
  refine K.ind2 (P := fun t => ∀ (k : Nat) (w : World), Sb (trees l) k t → Cells w b1 o1 5 (l.map DNode.enc) → countK t ≤ 1000000 →
    Calls Try.prog 74 #[.agg #[.slice (some ⟨b1, o1, none⟩) l.length c], .int .i64 k] w (XPost HV 5 t w)) ?_ t
  intro t ih k w hSb C hcnt
  have ih := hd ih
  have hC := hd C
  obtain ⟨ee, hE, _⟩ := hSb
  obtain ⟨hk, hk0, hk1, hk2, hk3, _⟩ := encV_top hE
  obtain ⟨_, _, _, hkd1, hkd2⟩ := Sb.at ⟨ee, hE, ‹_›⟩
  have hkI : (k : Int) < (l.length : Int) := by omega
  rw [countK_eq] at hcnt
  have hpl := len_count t.parts
  have hcp := hd (fun p (hp : p ∈ t.parts) => count_part hp)
  have hkd2 := hd hkd2
  obtain ⟨qs, hqs⟩ : ∃ qs, qs = kidsOf (trees l) k := ⟨_, rfl⟩
  rw [← hqs] at hkd1
  have hkd2 := hd (show ∀ j (h : j < qs.length) (h' : j < t.parts.length), Sb (trees l) qs[j] t.parts[j] by rw [hqs]; exact hkd2.out)
  have hmk := hd (fun w' B s rws h1 h2 => mkV (w := w') (B := B) (t := t) (s := s) (rws := rws) h1 h2)
  obtain ⟨i0, hi, hz0, hz1, hz2⟩ := info_parts infoV
  have Hi := hd hi; have Hz0 := hd hz0; have Hz1 := hd hz1; have Hz2 := hd hz2
  obtain ⟨f0, f1, f2, f3, f4⟩ := Cells.rowNode l k hk C
  rw [hk0] at f0
  rw [hk1] at f1
  rw [hk2] at f2
  rw [hk3] at f4
  clear hi hz0 hz1 hz2 hk0 hk1 hk2 hk3 C hE
  generalize l[k].up = ux at *
  generalize hps : t.parts = ps at *
  replace hps := hd hps
  generalize t.most = mo at *
  generalize t.name = nm at *
  generalize t.no = no at *
  generalize t.must = mu at *
  have hWeq := hd (below_a4 w (a := .cells #[.slice (some ⟨b1, o1, none⟩) l.length c] 39) (b := .cells #[.int .i64 0, .string ⟨#[]⟩, .int .i64 0, .bool false, .slice none 0 0] 93) (c := .cells #[.int .i64 mo, .string nm, .int .i64 no, .int .i64 ux, .bool mu] 113) (d := .cells #[.int .i64 mo, .string nm, .int .i64 no, .bool mu, .slice none 0 0] 93))
  have hq := hd (show ((((w.alloc (.cells #[.slice (some ⟨b1, o1, none⟩) l.length c] 39)).alloc (.cells #[.int .i64 0, .string ⟨#[]⟩, .int .i64 0, .bool false, .slice none 0 0] 93)).alloc (.cells #[.int .i64 mo, .string nm, .int .i64 no, .int .i64 ux, .bool mu] 113)).alloc (.cells #[.int .i64 mo, .string nm, .int .i64 no, .bool mu, .slice none 0 0] 93)).cell? ⟨w.heap.size, 0, none⟩ = some (.slice (some ⟨b1, o1, none⟩) l.length c) by go_simp)
  have hXr := hd (show BoxN ((((w.alloc (.cells #[.slice (some ⟨b1, o1, none⟩) l.length c] 39)).alloc (.cells #[.int .i64 0, .string ⟨#[]⟩, .int .i64 0, .bool false, .slice none 0 0] 93)).alloc (.cells #[.int .i64 mo, .string nm, .int .i64 no, .int .i64 ux, .bool mu] 113)).alloc (.cells #[.int .i64 mo, .string nm, .int .i64 no, .bool mu, .slice none 0 0] 93)) (w.heap.size + 1) [.int .i64 0, .string ⟨#[]⟩, .int .i64 0, .bool false, .slice none 0 0] from by
    have := BoxN.new (w.alloc (.cells #[.slice (some ⟨b1, o1, none⟩) l.length c] 39)) [.int .i64 0, .string ⟨#[]⟩, .int .i64 0, .bool false, .slice none 0 0] 93
    rw [World.size_alloc] at this
    exact this.below (below_a2 _))
  have hXo := hd (show BoxN ((((w.alloc (.cells #[.slice (some ⟨b1, o1, none⟩) l.length c] 39)).alloc (.cells #[.int .i64 0, .string ⟨#[]⟩, .int .i64 0, .bool false, .slice none 0 0] 93)).alloc (.cells #[.int .i64 mo, .string nm, .int .i64 no, .int .i64 ux, .bool mu] 113)).alloc (.cells #[.int .i64 mo, .string nm, .int .i64 no, .bool mu, .slice none 0 0] 93)) (w.heap.size + 1 + 1 + 1) [.int .i64 mo, .string nm, .int .i64 no, .bool mu, .slice none 0 0] from by
    have := BoxN.new (((w.alloc (.cells #[.slice (some ⟨b1, o1, none⟩) l.length c] 39)).alloc (.cells #[.int .i64 0, .string ⟨#[]⟩, .int .i64 0, .bool false, .slice none 0 0] 93)).alloc (.cells #[.int .i64 mo, .string nm, .int .i64 no, .int .i64 ux, .bool mu] 113)) [.int .i64 mo, .string nm, .int .i64 no, .bool mu, .slice none 0 0] 93
    rw [World.size_alloc, World.size_alloc, World.size_alloc] at this
    exact this)
  have hszE := hd (show ((((w.alloc (.cells #[.slice (some ⟨b1, o1, none⟩) l.length c] 39)).alloc (.cells #[.int .i64 0, .string ⟨#[]⟩, .int .i64 0, .bool false, .slice none 0 0] 93)).alloc (.cells #[.int .i64 mo, .string nm, .int .i64 no, .int .i64 ux, .bool mu] 113)).alloc (.cells #[.int .i64 mo, .string nm, .int .i64 no, .bool mu, .slice none 0 0] 93)).heap.size = w.heap.size + 4 by simp)
  have kf0 := fun o o' => keepCell (below_a2 w (a := o) (b := o')) f0
  have kf1 := fun o o' => keepCell (below_a2 w (a := o) (b := o')) f1
  have kf2 := fun o o' => keepCell (below_a2 w (a := o) (b := o')) f2
  have kf3 := fun o o' => keepCell (below_a2 w (a := o) (b := o')) f3
  have kf4 := fun o o' => keepCell (below_a2 w (a := o) (b := o')) f4
  clear f0 f1 f2 f3 f4
  go_enter Try.func74, Try.ntmps74
  go_upto_region 3 with (fail)
  generalize (((w.alloc (.cells #[.slice (some ⟨b1, o1, none⟩) l.length c] 39)).alloc (.cells #[.int .i64 0, .string ⟨#[]⟩, .int .i64 0, .bool false, .slice none 0 0] 93)).alloc (.cells #[.int .i64 mo, .string nm, .int .i64 no, .int .i64 ux, .bool mu] 113)).alloc (.cells #[.int .i64 mo, .string nm, .int .i64 no, .bool mu, .slice none 0 0] 93) = W at *
  clear kf0 kf1 kf2 kf3 kf4
  have pf := hq.out
  have ck := hd (kidsV_s l _ k W hl (show Sl W (.slice (some ⟨b1, o1, none⟩) l.length c) 5 (l.map DNode.enc) from ⟨_, c, by rw [List.length_map], .inr ⟨b1, o1, rfl, hC.out.mono hWeq.out⟩⟩) hk)
  go_wp2_with fail
  refine ck.out.mono ?_
  rintro e w3 ⟨vK, rfl, hoK, hb3⟩
  rw [← hqs] at hoK
  obtain ⟨aK, cK, rfl, hrK⟩ := hoK.sl
  have hrK := hd hrK
  have hKB := hd hoK.lt
  simp only [List.length_map] at *
  have hz3 : w.heap.size + 4 ≤ w3.heap.size := by have := hb3.size; have := hszE.out; omega
  have qf := keepCell hb3 pf
  have hXo3 := hd (hXo.out.below hb3)
  have hXr3 := hd (hXr.out.below hb3)
  have hB3 := hd (hWeq.out.next hb3)
  have hqlen : (qs.length : Int) = (ps.length : Int) := by omega
  clear hoK hb3 pf ck
  rw [hkd1]
  go_wp2_with fail
  go_loopw [27] (fun n wr => ∃ (j : Nat) (s : Value) (rws : List (List Value)), j ≤ ps.length ∧ n = .int .i64 j ∧ Hd (BoxN wr (w.heap.size + 1 + 1 + 1) [.int .i64 mo, .string nm, .int .i64 no, .bool mu, s]) ∧ Hd (Own wr w3.heap.size 93 5 s rws) ∧ Hd (SepX HV 5 wr (w.heap.size + 4) s (ps.take j) rws) ∧ Hd (w3.grownBy wr (some (w.heap.size + 1 + 1 + 1)))) (fun n _ => ps.length - (intOf n).toNat)
  case atStart => exact ⟨0, .slice none 0 0, [], Nat.zero_le _, rfl, hXo3.out, Own.nil, by rw [List.take_zero]; exact SepX.nil, grownBy_refl _ _⟩
  case round =>
    obtain ⟨j, s, rws, hj, rfl, hX, hO, hSep, hG⟩ := hrel
    obtain ⟨wo, rfl⟩ : ∃ wo : World, wo = wr := ⟨_, rfl⟩
    have hzG := hG.out.size
    have qo := hG.out.cell qf (fun e => by have : w.heap.size = w.heap.size + 1 + 1 + 1 := Option.some.inj e; omega)
    have hXr4 := hd (hXr3.out.grown hG.out (fun e => by have : w.heap.size + 1 = w.heap.size + 1 + 1 + 1 := Option.some.inj e; omega))
    by_cases hlt : j < ps.length
    · have hltI : (j : Int) < (ps.length : Int) := by omega
      obtain ⟨bK, oK, rfl, CK⟩ := rows_at hrK.out (k := j) (by rw [List.length_map]; omega)
      have kq0 := CK.2 j (encN qs[j]) (by simp [show j < qs.length by omega]) 0 _ rfl
      rw [Nat.mul_one, Nat.add_zero] at kq0
      have kq := hG.out.cell kq0 (fun e => by have h1 : bK = w.heap.size + 1 + 1 + 1 := Option.some.inj e; have := hKB.out bK rfl; have := hszE.out; omega)
      have ci := hd (fun w' (hb : Below wo.heap.size wo w') => ih.out ps[j] (List.getElem_mem hlt) (qs[j]'(by omega)) w' (hkd2.out j (by omega) hlt)
        (Cells.mono (Cells.kept (hC.out.mono hB3.out) hG.out (fun e => by have h1 : b1 = w.heap.size + 1 + 1 + 1 := Option.some.inj e; have := hC.out.1; omega)) hb) (by have := hcp.out _ (List.getElem_mem hlt); omega))
      have hvl : rws.length = j := by have := hSep.out.1; rw [List.length_take] at this; omega
      have htk := hd (show ps.take (j + 1) = ps.take j ++ [ps[j]] from List.take_succ_eq_append_getElem hlt)
      have y5 := hX.out.1 4 _ rfl
      have hsl : ∀ g, s.ownBlock = some g → g < wo.heap.size := fun g hg => (hO.out.lt g hg).2
      have hszs := hd hsl
      clear kq0 CK hsl
      generalize ps[j] = p at *
      generalize (qs[j]'(by omega)) = qj at *
      go_wp2_with fail
      go_region_law (first
        | (refine step_appOwn (by rfl) _ _ _ (by rfl) w3.heap.size 93 i0 _ 5 64 Try.underlying91 Hi.out Hz0.out Hz1.out Hz2.out (by rfl) (by decide) _ rws [[.int .i64 p.most, .string p.name, .int .i64 p.no, .bool p.must, .slice a5 p.parts.length c5]] (by rfl) (hO5.out.below (below_a1 _)) _ 1 _ (by rfl) (by rfl) (one_row rfl) (cells_new _ _ _) rowV_one (by omega) (by decide) (by first | omega | exact Nat.le_refl _ | (simp; done) | (simp; omega)) ?_; intro s6 w6 ho6 hg6 hv6; obtain ⟨a6, c6, hs6, _⟩ := ho6.sl; rw [List.length_append, List.length_singleton, hvl] at hs6; subst hs6; have hX6 := hd ((hX5.out.below (below_a1 _)).grown hg6 (by intro e; have := (hO5.out.lt _ e.symm).1; omega)); have y6 := hX6.out.1 4 _ rfl; have r6 := hX6.out.2.1 4; have hg6 := hd hg6; have hv6 := hd hv6; have ho6 := hd ho6; have hz6 := hg6.out.size)
        | (go_simp; go_at_call 74; refine (ci.out _ (by first | exact Below.refl _ _ | exact (Below.refl _ _).drew)).mono ?_; rintro e' w5 ⟨r5, rfl, hr5, hb5⟩; obtain ⟨a5, c5, rows5, rfl, _⟩ := hr5.openV; have hb5 := hd (show Below wo.heap.size wo w5 from by first | exact hb5 | exact (Below.refl _ wo).drew.next hb5); have hr5 := hd (show RepX HV 5 w5 wo.heap.size w5.heap.size p _ from hr5); have hX5 := hd (hX.out.below hb5.out); have hO5 := hd (hO.out.below hb5.out); have hz5 := hb5.out.size; have y5b := hX5.out.1 4 _ rfl; have y5c := fun o => keepCell (below_a1 w5 (a := o)) y5b))
      all_goals
        have hne6 : ∀ g, (Value.slice a6 (j + 1) c6).ownBlock = some g → w3.heap.size ≤ g := fun g hg => (ho6.out.lt g hg).1
        have hX7 := hd (hX6.out.set (i := 4) (by simp) (.slice a6 (j + 1) c6))
        have hO7 := hd (ho6.out.kept (grownBy_setCell w6 ⟨w.heap.size + 1 + 1 + 1, 4, none⟩ (.slice a6 (j + 1) c6)) (.inr (fun e => by have : w3.heap.size ≤ w.heap.size + 1 + 1 + 1 := hne6 _ e; omega)))
        have hS5 := hd ((hSep.out.below hb5.out).snoc (by omega) (Nat.le_refl _) (fun g hg => .inl (hszs.out g hg)) hr5.out)
        have hS7 := hd (((hS5.out.below (below_a1 w5 (a := .cells #[.int .i64 p.most, .string p.name, .int .i64 p.no, .bool p.must, .slice a5 p.parts.length c5] 93))).grown (Gr.app hg6.out hv6.out)).set (c := w.heap.size + 1 + 1 + 1) (k := 4) (u := .slice a6 (j + 1) c6) (by omega))
        have hG7 := hd (show w3.grownBy (w6.setCell ⟨w.heap.size + 1 + 1 + 1, 4, none⟩ (.slice a6 (j + 1) c6)) (some (w.heap.size + 1 + 1 + 1)) from grownBy_trans (grownBy_trans (grownBy_trans (grownBy_trans hG.out (below_grownBy hb5.out (some (w.heap.size + 1 + 1 + 1))) (.inl rfl)) (below_grownBy (below_a1 w5 (a := .cells #[.int .i64 p.most, .string p.name, .int .i64 p.no, .bool p.must, .slice a5 p.parts.length c5] 93)) (some (w.heap.size + 1 + 1 + 1))) (.inl rfl)) hg6.out (.inr (fun g hg => (hO5.out.lt g hg).1))) (grownBy_setCell w6 ⟨w.heap.size + 1 + 1 + 1, 4, none⟩ _) (.inl rfl))
        go_wp2_with fail
        go_roundw
        case rel => exact ⟨j + 1, .slice a6 (j + 1) c6, _, by omega, by go_num, hX7.out, hO7.out, by rw [htk.out]; exact hS7.out, hG7.out⟩
        case measure => simp [intOf]; omega
    · obtain rfl : j = ps.length := by omega
      have hltI : ¬ (ps.length : Int) < (ps.length : Int) := by omega
      rw [List.take_length] at hSep
      have y0 := hX.out.1 0 _ rfl; have y1 := hX.out.1 1 _ rfl; have y2 := hX.out.1 2 _ rfl; have y3 := hX.out.1 3 _ rfl; have y4 := hX.out.1 4 _ rfl
      have z0 := hXr4.out.1 0 _ rfl; have rz0 := hXr4.out.2.1 0; have z1 := hXr4.out.1 1 _ rfl; have rz1 := hXr4.out.2.1 1; have z2 := hXr4.out.1 2 _ rfl; have rz2 := hXr4.out.2.1 2; have z3 := hXr4.out.1 3 _ rfl; have rz3 := hXr4.out.2.1 3; have z4 := hXr4.out.1 4 _ rfl; have rz4 := hXr4.out.2.1 4
      obtain ⟨aS, cS, rfl, _⟩ := hO.out.sl
      go_wp2_with fail
      have hGf := grownBy_setCells (w.heap.size + 1) [.int .i64 mo, .string nm, .int .i64 no, .bool mu, .slice aS rws.length cS] wo 0
      have hsm := hd (show Same wo (setCells wo (w.heap.size + 1) 0 [.int .i64 mo, .string nm, .int .i64 no, .bool mu, .slice aS rws.length cS]) (w.heap.size + 4) wo.heap.size from Same.grown hGf (Nat.le_refl _) (fun g hg => by cases hg; left; omega))
      have hxs := hd (XSl.own (hO.out.weaken (B' := w.heap.size + 4) hz3) (fun g hg => (hO.out.lt g hg).2))
      have hfin := hd (hmk.out (setCells wo (w.heap.size + 1) 0 [.int .i64 mo, .string nm, .int .i64 no, .bool mu, .slice aS rws.length cS]) w.heap.size (.slice aS rws.length cS) rws (hxs.out.same hsm.out (by omega) hGf.size)
        (RepXs.mk _ _ hSep.out.1 (fun j h1 h2 => by obtain ⟨lo, hi, q1, q2, _, q4⟩ := hSep.out.2 j h1 h2; exact RepX.same (fun b g1 g2 o => hsm.out b (by omega) (by omega) o) (by omega) (Nat.le_trans q2 hGf.size) _ _ q4)))
      have hbelow := hd (show Below w.heap.size w (setCells wo (w.heap.size + 1) 0 [.int .i64 mo, .string nm, .int .i64 no, .bool mu, .slice aS rws.length cS]) from by
        have h1 : Below w.heap.size w wo := hB3.out.grown hG.out (by omega) (fun g hg => by cases hg; omega)
        exact h1.grown hGf h1.size (fun g hg => by cases hg; omega))
      refine bodyPost_ret (v := .agg #[.int .i64 mo, .string nm, .int .i64 no, .bool mu, .slice aS rws.length cS]) (by simp [results, Try.results74, go_sem, z0, z1, z2, z3, z4]) rfl ⟨[.int .i64 mo, .string nm, .int .i64 no, .bool mu, .slice aS rws.length cS], rfl, hfin.out, hbelow.out⟩
end Go.Proofs.Ytobahkjbadamhaa
