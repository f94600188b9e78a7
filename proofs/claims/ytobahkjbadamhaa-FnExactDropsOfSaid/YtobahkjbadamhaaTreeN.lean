/- The reference on values: l4Kids (with TreeV, Nodes). -/
import Derived.Test.YtobahkjbadamhaaFitMM
import Derived.Test.YtobahkjbadamhaaFlatDef
import Derived.Test.YtobahkjbadamhaaFits3
import Derived.Deep.RegionLaw
/- The reference on values: l4Kids. -/
namespace Go.Proofs.Ytobahkjbadamhaa
open Go.RowKit
set_option linter.unusedVariables false
set_option maxRecDepth 100000
set_option maxHeartbeats 1600000 in
theorem kidsV_s (l : List DNode) (v : Value) (k : Nat) (w : World) (hl : l.length ≤ 1000000) (h : Sl w v 5 (l.map DNode.enc)) (hk : k < l.length) :
    Calls Try.prog 111 #[.agg #[v], .int .i64 k] w (KidsPost (trees l) k w) := by
  have hS := hd h
  obtain ⟨a1, c1, rfl, hrr⟩ := h
  have hrr := hd hrr
  simp only [List.length_map]
  obtain ⟨i0, hi, hz0, hz1, hz2⟩ := info_parts infoInt
  have Hi := hd hi; have Hz0 := hd hz0; have Hz1 := hd hz1; have Hz2 := hd hz2
  clear hi hz0 hz1 hz2
  have hw1 : IntKind.i64.wrap ((k : Int) + 1) = ((k + 1 : Nat) : Int) := by rw [IntWalk.i64_in _ (by omega)]; omega
  have hq := hd (show (w.alloc (.cells #[.slice a1 l.length c1] 39)).cell? ⟨w.heap.size, 0, none⟩ = some (.slice a1 l.length c1) by go_simp)
  obtain ⟨W, hW⟩ : ∃ W, W = w.alloc (.cells #[.slice a1 l.length c1] 39) := ⟨_, rfl⟩
  have hbW := hd (show Below w.heap.size w W by rw [hW]; exact below_a1 w)
  have hsW : W.heap.size = w.heap.size + 1 := by rw [hW]; simp
  rw [← hW] at hq
  go_enter Try.func111, Try.ntmps111
  go_upto_region 1 with (fail)
  rw [← hW]
  clear hW
  go_wp2_with fail
  go_loopw [5, 6] (fun s n wr => ∃ (i : Nat) (acc : List Nat), n = .int .i64 i ∧ (k < i ∧ i ≤ l.length) ∧ Hd (acc ++ seg (trees l) k i = kidsOf (trees l) k) ∧ Hd (acc.length ≤ i) ∧ Hd (Own wr (w.heap.size + 1) 3 1 s (acc.map encN)) ∧ Hd (Below (w.heap.size + 1) W wr)) (fun _ n _ => l.length - (intOf n).toNat)
  case atStart => exact ⟨k + 1, [], by go_num, by omega, rfl, Nat.zero_le _, Own.nil, Below.refl _ _⟩
  case round =>
    obtain ⟨i, acc, rfl, ⟨hki, hil⟩, hacc, hal, hO, hbl⟩ := hrel
    obtain ⟨wo, rfl⟩ : ∃ wo : World, wo = wr := ⟨_, rfl⟩
    have q := (show wo.cell? ⟨w.heap.size, 0, none⟩ = some (.slice a1 l.length c1) from by rw [hbl.out.cell (by simp)]; exact hq.out)
    have hbw := hd (show Below w.heap.size w wo from hbW.out.trans (hbl.out.mono (by omega)))
    by_cases hlt : i < l.length
    · have hltI : (i : Int) < (l.length : Int) := by omega
      obtain ⟨b1, o1, rfl, C1⟩ := rows_at hrr.out (k := i) (by rw [List.length_map]; exact hlt)
      obtain ⟨g0, g1, g2, g3, g4⟩ := Cells.rowNode l i hlt (C1.mono hbw.out)
      have hUi := UN_at hlt
      have hseg := seg_cons (l := trees l) (a := k) (by rw [trees_len]; exact hlt)
      rw [hUi] at hseg
      generalize l[i].up = ui at *
      replace hUi := hd hUi
      clear g0 g1 g2 g4
      by_cases hu : ui = (k : Int)
      · have hacc2 := hd (show (acc ++ [i]) ++ seg (trees l) k (i + 1) = kidsOf (trees l) k by rw [← hacc.out, hseg, if_pos hu]; simp)
        subst hu
        replace hseg := hd hseg
        have hal9 := hal.out
        go_wp2_with (at_builtin; refine wpList_appOwn rfl (.tmp 24) (.tmp 26) 63 rfl (w.heap.size + 1) 3 i0 _ 1 8 Try.underlying63 Hi.out Hz0.out Hz1.out Hz2.out rfl (by decide) _ (acc.map encN) [encN i] rfl (hO.out.below (below_a1 _)) _ 1 1 rfl rfl (one_row rfl) (cells_new _ _ _) (encN_one i) (by rw [List.length_map]; omega) (by decide) (by have := hbl.out.size; simp; omega) ?_; intro s6 w6 ho6 hg6 hv6; have hB6 := hd ((show Below (w.heap.size + 1) W _ from hbl.out.trans ((below_a1 wo).mono (by have := hbl.out.size; omega))).grown hg6 (by have := hbl.out.size; simp; omega) (fun g hg => (hO.out.lt g hg).1)); have ho7 := hd (show Own w6 (w.heap.size + 1) 3 1 s6 ((acc ++ [i]).map encN) from by rw [List.map_append]; exact ho6); clear hg6 hv6 ho6)
        go_roundw
        case rel => exact ⟨i + 1, acc ++ [i], by go_num, by omega, hacc2, by rw [Hd]; simp; exact hal.out, ho7, hB6⟩
        case measure => simp [intOf]; omega
      · have hub : (ui == (k : Int)) = false := by simpa using hu
        have hacc2 := hd (show acc ++ seg (trees l) k (i + 1) = kidsOf (trees l) k by rw [← hacc.out, hseg, if_neg hu])
        clear hu hseg
        have hal2 := hd (show acc.length ≤ i + 1 from Nat.le_succ_of_le hal.out)
        go_wp2_with fail
        go_roundw
        case rel => exact ⟨i + 1, acc, by go_num, by omega, hacc2, hal2, hO, hbl⟩
        case measure => simp [intOf]; omega
    · obtain rfl : i = l.length := by omega
      have hltI : ¬ (l.length : Int) < (l.length : Int) := by omega
      have hfin := hd (show acc = kidsOf (trees l) k by rw [← hacc.out, seg_end (by rw [trees_len]; exact Nat.le_refl _), List.append_nil])
      go_wp2_with fail
      go_ret
      exact ⟨_, rfl, by rw [← hfin.out]; exact hO.out.weaken (by omega), hbw.out⟩
end Go.Proofs.Ytobahkjbadamhaa
/- The reference's tree of a value: l4Tree. -/
namespace Go.Proofs.Ytobahkjbadamhaa
open Go.RowKit
set_option linter.unusedVariables false
set_option maxRecDepth 100000
theorem mkV {w : World} {B : Nat} {t : K} {s : Value} {rws : List (List Value)} (h : XSl 5 w B w.heap.size s rws) (hp : RepXs HV 5 w B w.heap.size t.parts rws) : RepX HV 5 w B w.heap.size t [.int .i64 t.most, .string t.name, .int .i64 t.no, .bool t.must, s] := RepX.mk h hp
set_option maxHeartbeats 6400000 in
theorem treeV_s (l : List DNode) (b1 o1 c : Nat) (hl : l.length ≤ 1000000) (t : K) : ∀ (k : Nat) (w : World), Sb (trees l) k t → Cells w b1 o1 5 (l.map DNode.enc) → countK t ≤ 1000000 →
    Calls Try.prog 74 #[.agg #[.slice (some ⟨b1, o1, none⟩) l.length c], .int .i64 k] w (XPost HV 5 t w) := by
  refine K.ind2 (P := fun t => ∀ (k : Nat) (w : World), Sb (trees l) k t → Cells w b1 o1 5 (l.map DNode.enc) → countK t ≤ 1000000 →
    Calls Try.prog 74 #[.agg #[.slice (some ⟨b1, o1, none⟩) l.length c], .int .i64 k] w (XPost HV 5 t w)) ?_ t
  intro t ih k w hSb C hcnt
  have ih := hd ih
  have hC := hd C
  obtain ⟨ee, hE, _⟩ := hSb
  obtain ⟨hk, hk0, hk1, hk2, hk3, _⟩ := encV_top hE
  obtain ⟨_, _, _, hkd1, hkd2⟩ := Sb.at ⟨ee, hE, ‹_›⟩
  have hkI : (k : Int) < (l.length : Int) := by omega
  rw [countK_eq] at hcnt
  have hpl := len_count t.parts
  have hcp := hd (fun p (hp : p ∈ t.parts) => count_part hp)
  have hkd2 := hd hkd2
  obtain ⟨qs, hqs⟩ : ∃ qs, qs = kidsOf (trees l) k := ⟨_, rfl⟩
  rw [← hqs] at hkd1
  have hkd2 := hd (show ∀ j (h : j < qs.length) (h' : j < t.parts.length), Sb (trees l) qs[j] t.parts[j] by rw [hqs]; exact hkd2.out)
  have hmk := hd (fun w' B s rws h1 h2 => mkV (w := w') (B := B) (t := t) (s := s) (rws := rws) h1 h2)
  obtain ⟨i0, hi, hz0, hz1, hz2⟩ := info_parts infoV
  have Hi := hd hi; have Hz0 := hd hz0; have Hz1 := hd hz1; have Hz2 := hd hz2
  obtain ⟨f0, f1, f2, f3, f4⟩ := Cells.rowNode l k hk C
  rw [hk0] at f0
  rw [hk1] at f1
  rw [hk2] at f2
  rw [hk3] at f4
  clear hi hz0 hz1 hz2 hk0 hk1 hk2 hk3 C hE
  generalize l[k].up = ux at *
  generalize hps : t.parts = ps at *
  replace hps := hd hps
  generalize t.most = mo at *
  generalize t.name = nm at *
  generalize t.no = no at *
  generalize t.must = mu at *
  have hWeq := hd (below_a4 w (a := .cells #[.slice (some ⟨b1, o1, none⟩) l.length c] 39) (b := .cells #[.int .i64 0, .string ⟨#[]⟩, .int .i64 0, .bool false, .slice none 0 0] 93) (c := .cells #[.int .i64 mo, .string nm, .int .i64 no, .int .i64 ux, .bool mu] 113) (d := .cells #[.int .i64 mo, .string nm, .int .i64 no, .bool mu, .slice none 0 0] 93))
  have hq := hd (show ((((w.alloc (.cells #[.slice (some ⟨b1, o1, none⟩) l.length c] 39)).alloc (.cells #[.int .i64 0, .string ⟨#[]⟩, .int .i64 0, .bool false, .slice none 0 0] 93)).alloc (.cells #[.int .i64 mo, .string nm, .int .i64 no, .int .i64 ux, .bool mu] 113)).alloc (.cells #[.int .i64 mo, .string nm, .int .i64 no, .bool mu, .slice none 0 0] 93)).cell? ⟨w.heap.size, 0, none⟩ = some (.slice (some ⟨b1, o1, none⟩) l.length c) by go_simp)
  have hXr := hd (show BoxN ((((w.alloc (.cells #[.slice (some ⟨b1, o1, none⟩) l.length c] 39)).alloc (.cells #[.int .i64 0, .string ⟨#[]⟩, .int .i64 0, .bool false, .slice none 0 0] 93)).alloc (.cells #[.int .i64 mo, .string nm, .int .i64 no, .int .i64 ux, .bool mu] 113)).alloc (.cells #[.int .i64 mo, .string nm, .int .i64 no, .bool mu, .slice none 0 0] 93)) (w.heap.size + 1) [.int .i64 0, .string ⟨#[]⟩, .int .i64 0, .bool false, .slice none 0 0] from by
    have := BoxN.new (w.alloc (.cells #[.slice (some ⟨b1, o1, none⟩) l.length c] 39)) [.int .i64 0, .string ⟨#[]⟩, .int .i64 0, .bool false, .slice none 0 0] 93
    rw [World.size_alloc] at this
    exact this.below (below_a2 _))
  have hXo := hd (show BoxN ((((w.alloc (.cells #[.slice (some ⟨b1, o1, none⟩) l.length c] 39)).alloc (.cells #[.int .i64 0, .string ⟨#[]⟩, .int .i64 0, .bool false, .slice none 0 0] 93)).alloc (.cells #[.int .i64 mo, .string nm, .int .i64 no, .int .i64 ux, .bool mu] 113)).alloc (.cells #[.int .i64 mo, .string nm, .int .i64 no, .bool mu, .slice none 0 0] 93)) (w.heap.size + 1 + 1 + 1) [.int .i64 mo, .string nm, .int .i64 no, .bool mu, .slice none 0 0] from by
    have := BoxN.new (((w.alloc (.cells #[.slice (some ⟨b1, o1, none⟩) l.length c] 39)).alloc (.cells #[.int .i64 0, .string ⟨#[]⟩, .int .i64 0, .bool false, .slice none 0 0] 93)).alloc (.cells #[.int .i64 mo, .string nm, .int .i64 no, .int .i64 ux, .bool mu] 113)) [.int .i64 mo, .string nm, .int .i64 no, .bool mu, .slice none 0 0] 93
    rw [World.size_alloc, World.size_alloc, World.size_alloc] at this
    exact this)
  have hszE := hd (show ((((w.alloc (.cells #[.slice (some ⟨b1, o1, none⟩) l.length c] 39)).alloc (.cells #[.int .i64 0, .string ⟨#[]⟩, .int .i64 0, .bool false, .slice none 0 0] 93)).alloc (.cells #[.int .i64 mo, .string nm, .int .i64 no, .int .i64 ux, .bool mu] 113)).alloc (.cells #[.int .i64 mo, .string nm, .int .i64 no, .bool mu, .slice none 0 0] 93)).heap.size = w.heap.size + 4 by simp)
  have kf0 := fun o o' => keepCell (below_a2 w (a := o) (b := o')) f0
  have kf1 := fun o o' => keepCell (below_a2 w (a := o) (b := o')) f1
  have kf2 := fun o o' => keepCell (below_a2 w (a := o) (b := o')) f2
  have kf3 := fun o o' => keepCell (below_a2 w (a := o) (b := o')) f3
  have kf4 := fun o o' => keepCell (below_a2 w (a := o) (b := o')) f4
  clear f0 f1 f2 f3 f4
  go_enter Try.func74, Try.ntmps74
  go_upto_region 3 with (fail)
  generalize (((w.alloc (.cells #[.slice (some ⟨b1, o1, none⟩) l.length c] 39)).alloc (.cells #[.int .i64 0, .string ⟨#[]⟩, .int .i64 0, .bool false, .slice none 0 0] 93)).alloc (.cells #[.int .i64 mo, .string nm, .int .i64 no, .int .i64 ux, .bool mu] 113)).alloc (.cells #[.int .i64 mo, .string nm, .int .i64 no, .bool mu, .slice none 0 0] 93) = W at *
  clear kf0 kf1 kf2 kf3 kf4
  have pf := hq.out
  have ck := hd (kidsV_s l _ k W hl (show Sl W (.slice (some ⟨b1, o1, none⟩) l.length c) 5 (l.map DNode.enc) from ⟨_, c, by rw [List.length_map], .inr ⟨b1, o1, rfl, hC.out.mono hWeq.out⟩⟩) hk)
  go_wp2_with fail
  refine ck.out.mono ?_
  rintro e w3 ⟨vK, rfl, hoK, hb3⟩
  rw [← hqs] at hoK
  obtain ⟨aK, cK, rfl, hrK⟩ := hoK.sl
  have hrK := hd hrK
  have hKB := hd hoK.lt
  simp only [List.length_map] at *
  have hz3 : w.heap.size + 4 ≤ w3.heap.size := by have := hb3.size; have := hszE.out; omega
  have qf := keepCell hb3 pf
  have hXo3 := hd (hXo.out.below hb3)
  have hXr3 := hd (hXr.out.below hb3)
  have hB3 := hd (hWeq.out.next hb3)
  have hqlen : (qs.length : Int) = (ps.length : Int) := by omega
  clear hoK hb3 pf ck
  rw [hkd1]
  go_wp2_with fail
  go_loopw [27] (fun n wr => ∃ (j : Nat) (s : Value) (rws : List (List Value)), j ≤ ps.length ∧ n = .int .i64 j ∧ Hd (BoxN wr (w.heap.size + 1 + 1 + 1) [.int .i64 mo, .string nm, .int .i64 no, .bool mu, s]) ∧ Hd (Own wr w3.heap.size 93 5 s rws) ∧ Hd (SepX HV 5 wr (w.heap.size + 4) s (ps.take j) rws) ∧ Hd (w3.grownBy wr (some (w.heap.size + 1 + 1 + 1)))) (fun n _ => ps.length - (intOf n).toNat)
  case atStart => exact ⟨0, .slice none 0 0, [], Nat.zero_le _, rfl, hXo3.out, Own.nil, by rw [List.take_zero]; exact SepX.nil, grownBy_refl _ _⟩
  case round =>
    obtain ⟨j, s, rws, hj, rfl, hX, hO, hSep, hG⟩ := hrel
    obtain ⟨wo, rfl⟩ : ∃ wo : World, wo = wr := ⟨_, rfl⟩
    have hzG := hG.out.size
    have qo := hG.out.cell qf (fun e => by have : w.heap.size = w.heap.size + 1 + 1 + 1 := Option.some.inj e; omega)
    have hXr4 := hd (hXr3.out.grown hG.out (fun e => by have : w.heap.size + 1 = w.heap.size + 1 + 1 + 1 := Option.some.inj e; omega))
    by_cases hlt : j < ps.length
    · have hltI : (j : Int) < (ps.length : Int) := by omega
      obtain ⟨bK, oK, rfl, CK⟩ := rows_at hrK.out (k := j) (by rw [List.length_map]; omega)
      have kq0 := CK.2 j (encN qs[j]) (by simp [show j < qs.length by omega]) 0 _ rfl
      rw [Nat.mul_one, Nat.add_zero] at kq0
      have kq := hG.out.cell kq0 (fun e => by have h1 : bK = w.heap.size + 1 + 1 + 1 := Option.some.inj e; have := hKB.out bK rfl; have := hszE.out; omega)
      have ci := hd (fun w' (hb : Below wo.heap.size wo w') => ih.out ps[j] (List.getElem_mem hlt) (qs[j]'(by omega)) w' (hkd2.out j (by omega) hlt)
        (Cells.mono (Cells.kept (hC.out.mono hB3.out) hG.out (fun e => by have h1 : b1 = w.heap.size + 1 + 1 + 1 := Option.some.inj e; have := hC.out.1; omega)) hb) (by have := hcp.out _ (List.getElem_mem hlt); omega))
      have hvl : rws.length = j := by have := hSep.out.1; rw [List.length_take] at this; omega
      have htk := hd (show ps.take (j + 1) = ps.take j ++ [ps[j]] from List.take_succ_eq_append_getElem hlt)
      have y5 := hX.out.1 4 _ rfl
      have hsl : ∀ g, s.ownBlock = some g → g < wo.heap.size := fun g hg => (hO.out.lt g hg).2
      have hszs := hd hsl
      clear kq0 CK hsl
      generalize ps[j] = p at *
      generalize (qs[j]'(by omega)) = qj at *
      go_wp2_with fail
      go_region_law (first
        | (refine step_appOwn (by rfl) _ _ _ (by rfl) w3.heap.size 93 i0 _ 5 64 Try.underlying91 Hi.out Hz0.out Hz1.out Hz2.out (by rfl) (by decide) _ rws [[.int .i64 p.most, .string p.name, .int .i64 p.no, .bool p.must, .slice a5 p.parts.length c5]] (by rfl) (hO5.out.below (below_a1 _)) _ 1 _ (by rfl) (by rfl) (one_row rfl) (cells_new _ _ _) rowV_one (by omega) (by decide) (by first | omega | exact Nat.le_refl _ | (simp; done) | (simp; omega)) ?_; intro s6 w6 ho6 hg6 hv6; obtain ⟨a6, c6, hs6, _⟩ := ho6.sl; rw [List.length_append, List.length_singleton, hvl] at hs6; subst hs6; have hX6 := hd ((hX5.out.below (below_a1 _)).grown hg6 (by intro e; have := (hO5.out.lt _ e.symm).1; omega)); have y6 := hX6.out.1 4 _ rfl; have r6 := hX6.out.2.1 4; have hg6 := hd hg6; have hv6 := hd hv6; have ho6 := hd ho6; have hz6 := hg6.out.size)
        | (go_simp; go_at_call 74; refine (ci.out _ (by first | exact Below.refl _ _ | exact (Below.refl _ _).drew)).mono ?_; rintro e' w5 ⟨r5, rfl, hr5, hb5⟩; obtain ⟨a5, c5, rows5, rfl, _⟩ := hr5.openV; have hb5 := hd (show Below wo.heap.size wo w5 from by first | exact hb5 | exact (Below.refl _ wo).drew.next hb5); have hr5 := hd (show RepX HV 5 w5 wo.heap.size w5.heap.size p _ from hr5); have hX5 := hd (hX.out.below hb5.out); have hO5 := hd (hO.out.below hb5.out); have hz5 := hb5.out.size; have y5b := hX5.out.1 4 _ rfl; have y5c := fun o => keepCell (below_a1 w5 (a := o)) y5b))
      all_goals
        have hne6 : ∀ g, (Value.slice a6 (j + 1) c6).ownBlock = some g → w3.heap.size ≤ g := fun g hg => (ho6.out.lt g hg).1
        have hX7 := hd (hX6.out.set (i := 4) (by simp) (.slice a6 (j + 1) c6))
        have hO7 := hd (ho6.out.kept (grownBy_setCell w6 ⟨w.heap.size + 1 + 1 + 1, 4, none⟩ (.slice a6 (j + 1) c6)) (.inr (fun e => by have : w3.heap.size ≤ w.heap.size + 1 + 1 + 1 := hne6 _ e; omega)))
        have hS5 := hd ((hSep.out.below hb5.out).snoc (by omega) (Nat.le_refl _) (fun g hg => .inl (hszs.out g hg)) hr5.out)
        have hS7 := hd (((hS5.out.below (below_a1 w5 (a := .cells #[.int .i64 p.most, .string p.name, .int .i64 p.no, .bool p.must, .slice a5 p.parts.length c5] 93))).grown (Gr.app hg6.out hv6.out)).set (c := w.heap.size + 1 + 1 + 1) (k := 4) (u := .slice a6 (j + 1) c6) (by omega))
        have hG7 := hd (show w3.grownBy (w6.setCell ⟨w.heap.size + 1 + 1 + 1, 4, none⟩ (.slice a6 (j + 1) c6)) (some (w.heap.size + 1 + 1 + 1)) from grownBy_trans (grownBy_trans (grownBy_trans (grownBy_trans hG.out (below_grownBy hb5.out (some (w.heap.size + 1 + 1 + 1))) (.inl rfl)) (below_grownBy (below_a1 w5 (a := .cells #[.int .i64 p.most, .string p.name, .int .i64 p.no, .bool p.must, .slice a5 p.parts.length c5] 93)) (some (w.heap.size + 1 + 1 + 1))) (.inl rfl)) hg6.out (.inr (fun g hg => (hO5.out.lt g hg).1))) (grownBy_setCell w6 ⟨w.heap.size + 1 + 1 + 1, 4, none⟩ _) (.inl rfl))
        go_wp2_with fail
        go_roundw
        case rel => exact ⟨j + 1, .slice a6 (j + 1) c6, _, by omega, by go_num, hX7.out, hO7.out, by rw [htk.out]; exact hS7.out, hG7.out⟩
        case measure => simp [intOf]; omega
    · obtain rfl : j = ps.length := by omega
      have hltI : ¬ (ps.length : Int) < (ps.length : Int) := by omega
      rw [List.take_length] at hSep
      have y0 := hX.out.1 0 _ rfl; have y1 := hX.out.1 1 _ rfl; have y2 := hX.out.1 2 _ rfl; have y3 := hX.out.1 3 _ rfl; have y4 := hX.out.1 4 _ rfl
      have z0 := hXr4.out.1 0 _ rfl; have rz0 := hXr4.out.2.1 0; have z1 := hXr4.out.1 1 _ rfl; have rz1 := hXr4.out.2.1 1; have z2 := hXr4.out.1 2 _ rfl; have rz2 := hXr4.out.2.1 2; have z3 := hXr4.out.1 3 _ rfl; have rz3 := hXr4.out.2.1 3; have z4 := hXr4.out.1 4 _ rfl; have rz4 := hXr4.out.2.1 4
      obtain ⟨aS, cS, rfl, _⟩ := hO.out.sl
      go_wp2_with fail
      have hGf := grownBy_setCells (w.heap.size + 1) [.int .i64 mo, .string nm, .int .i64 no, .bool mu, .slice aS rws.length cS] wo 0
      have hsm := hd (show Same wo (setCells wo (w.heap.size + 1) 0 [.int .i64 mo, .string nm, .int .i64 no, .bool mu, .slice aS rws.length cS]) (w.heap.size + 4) wo.heap.size from Same.grown hGf (Nat.le_refl _) (fun g hg => by cases hg; left; omega))
      have hxs := hd (XSl.own (hO.out.weaken (B' := w.heap.size + 4) hz3) (fun g hg => (hO.out.lt g hg).2))
      have hfin := hd (hmk.out (setCells wo (w.heap.size + 1) 0 [.int .i64 mo, .string nm, .int .i64 no, .bool mu, .slice aS rws.length cS]) w.heap.size (.slice aS rws.length cS) rws (hxs.out.same hsm.out (by omega) hGf.size)
        (RepXs.mk _ _ hSep.out.1 (fun j h1 h2 => by obtain ⟨lo, hi, q1, q2, _, q4⟩ := hSep.out.2 j h1 h2; exact RepX.same (fun b g1 g2 o => hsm.out b (by omega) (by omega) o) (by omega) (Nat.le_trans q2 hGf.size) _ _ q4)))
      have hbelow := hd (show Below w.heap.size w (setCells wo (w.heap.size + 1) 0 [.int .i64 mo, .string nm, .int .i64 no, .bool mu, .slice aS rws.length cS]) from by
        have h1 : Below w.heap.size w wo := hB3.out.grown hG.out (by omega) (fun g hg => by cases hg; omega)
        exact h1.grown hGf h1.size (fun g hg => by cases hg; omega))
      refine bodyPost_ret (v := .agg #[.int .i64 mo, .string nm, .int .i64 no, .bool mu, .slice aS rws.length cS]) (by simp [results, Try.results74, go_sem, z0, z1, z2, z3, z4]) rfl ⟨[.int .i64 mo, .string nm, .int .i64 no, .bool mu, .slice aS rws.length cS], rfl, hfin.out, hbelow.out⟩
end Go.Proofs.Ytobahkjbadamhaa
/- Whether nodes are one tree: l4Nodes of the reference. -/
namespace Go.Proofs.Ytobahkjbadamhaa
open Go.RowKit
set_option linter.unusedVariables false
set_option maxRecDepth 100000
def okN (l : List DNode) (k : Nat) : Prop := ∀ h : k < l.length, if k = 0 then l[k].up = -1 ∧ l[k].no = 0 else aroundP (trees l) k
def nodesP (l : List DNode) : Prop := (1 ≤ l.length ∧ l.length ≤ 40) ∧ ∀ k, okN l k
theorem nodes_tree (l : List DNode) : nodesP l ↔ headP l ∧ ∃ v, enc (trees l) v 0 l.length := by
  constructor
  · rintro ⟨hn, hk⟩
    have h0 : 0 < l.length := by omega
    have hh := hk 0 h0
    rw [if_pos rfl] at hh
    refine ⟨⟨hn, h0, hh⟩, ?_⟩
    obtain ⟨v, e, g1, g2⟩ := parse (l := trees l) l.length 0 (by rw [trees_len]; omega) (by rw [trees_len]; exact h0) (fun i hi => by
      have : i = 0 := by omega
      subst this; rw [UN_at h0, hh.1]; omega)
    obtain ⟨b1, b2, b3⟩ := enc_bd v _ _ g1
    have he : e = l.length := by
      rw [trees_len] at b2
      by_cases hlt : e < l.length
      · exfalso
        have := hk e hlt
        rw [if_neg (by omega)] at this
        obtain ⟨q, hq, hA, hql, hho⟩ := this
        exact g2 q (Nat.zero_le _) hA ⟨hql, hho⟩ hq
      · omega
    exact ⟨v, by rw [← he]; exact g1⟩
  · rintro ⟨⟨hn, h0, hh⟩, v, hv⟩
    refine ⟨hn, fun k hk => ?_⟩
    by_cases hk0 : k = 0
    · subst hk0; rw [if_pos rfl]; exact hh
    · rw [if_neg hk0]
      exact (enc_sp v _ _ hv).2 k (by omega) hk
theorem ok_up {l : List DNode} {i : Nat} (hok : ∀ k, k < i → okN l k) : ∀ k, k < i → U (trees l) k < (k : Int) := by
  intro k
  induction k using Nat.strongRecOn with
  | _ k ih =>
    intro hk
    by_cases hkl : k < l.length
    · have h2 := hok k hk hkl
      by_cases hk0 : k = 0
      · subst hk0; rw [if_pos rfl] at h2; rw [UN_at hkl, h2.1]; omega
      · rw [if_neg hk0] at h2
        obtain ⟨q, hq, hA, _⟩ := h2
        have := hA.le (n := k - 1) (fun j hj => ih j (by omega) (by omega)) (Nat.le_refl _)
        omega
    · rw [UN_no (by omega)]; omega
set_option maxHeartbeats 6400000 in
theorem nodes_s (l : List DNode) (vv : Value) (w : World) (hl : l.length ≤ 1000000000) (h : Sl w vv 5 (l.map DNode.enc)) (r : Bool) (hr : r = true ↔ nodesP l) :
    Calls Try.prog 72 #[.agg #[vv]] w (BoolPost r w) := by
  have hfin := hd (fun (hk : ∀ k, k < l.length → okN l k) w => within_s (l.length : Int) 1 40 w r (by
    rw [Bool.eq_iff_iff, hr, nodesP, decide_eq_true_eq]
    constructor
    · rintro ⟨h1, h2⟩
      refine ⟨⟨by omega, by omega⟩, fun k => ?_⟩
      by_cases h3 : k < l.length
      · exact hk k h3
      · intro h4; exact absurd h4 h3
    · rintro ⟨⟨h1, h2⟩, _⟩; exact ⟨by omega, by omega⟩))
  have hbad := hd (fun k (h : ¬ okN l k) => nb hr (fun q => h (q.2 k)))
  clear hr
  rcases h.open with ⟨a1, c1, rfl, hrw⟩ | ⟨b1, o1, c, rfl, hrw, C⟩
  · obtain rfl : l = [] := by simpa using hrw
    have hfin := hd (hfin.out (fun k h => by simp at h))
    go_enter Try.func72, Try.ntmps72
    go_wp2_with fail
    go_loopw [10] (fun i wr => i = .int .i64 0 ∧ wr = w.alloc (.cells #[.slice a1 0 c1] 39)) (fun _ _ => 0)
    case atStart => exact ⟨rfl, rfl⟩
    case round =>
      obtain ⟨rfl, rfl⟩ := hrel
      go_wp2_with fail
      refine (hfin.out _).mono ?_
      rintro e w' ⟨rfl, rfl⟩
      go_wp2_with fail
      go_ret
      exact ⟨rfl, below_a1 _⟩
  · clear h
    rw [List.length_map]
    have hC := hd C
    have q0 := hd (show (w.alloc (.cells #[.slice (some ⟨b1, o1, none⟩) l.length c] 39)).cell? ⟨w.heap.size, 0, none⟩ = some (.slice (some ⟨b1, o1, none⟩) l.length c) by go_simp)
    have hB := hd (below_a1 w (a := .cells #[.slice (some ⟨b1, o1, none⟩) l.length c] 39))
    clear C hrw
    go_enter Try.func72, Try.ntmps72
    go_upto_region 1 with (fail)
    generalize w.alloc (.cells #[.slice (some ⟨b1, o1, none⟩) l.length c] 39) = W at *
    have q1 := q0.out
    go_wp2_with fail
    clear q1
    go_loopw [10] (fun ix wr => ∃ i : Nat, i ≤ l.length ∧ ix = .int .i64 i ∧ Hd (∀ k, k < i → okN l k) ∧ Hd (Below W.heap.size W wr)) (fun ix _ => l.length - (intOf ix).toNat)
    case atStart => exact ⟨0, Nat.zero_le _, rfl, fun k h => by omega, Below.refl _ _⟩
    case round =>
      obtain ⟨i, hi, rfl, hok, hbl⟩ := hrel
      obtain ⟨wo, rfl⟩ : ∃ wo : World, wo = wr := ⟨_, rfl⟩
      have hbw := hd (hB.out.next hbl.out)
      have qo := keepCell hbl.out q0.out
      by_cases hlt : i < l.length
      · have hltI : (i : Int) < (l.length : Int) := by omega
        obtain ⟨f0, f1, f2, f3, f4⟩ := Cells.rowNode l i hlt (hC.out.mono hbw.out)
        have hUi := hd (UN_at hlt)
        have hbi := hd (hbad.out i)
        have hnext := hd (fun (h : okN l i) => (show ∀ k, k < i + 1 → okN l k from fun k hk => by
          by_cases e : k = i
          · subst e; exact h
          · exact hok.out k (by omega)))
        have hX := hd (fun E => BoxN.new wo [.int .i64 l[i].num, .string l[i].text, .int .i64 l[i].no, .int .i64 l[i].up, .bool l[i].many] E)
        have hbn := hd (fun o => hbw.out.next (below_a1 wo (a := o)))
        have hln := hd (fun o => hbl.out.next (below_a1 wo (a := o)))
        by_cases hi0 : i = 0
        · subst hi0
          rw [Nat.zero_mul, Nat.add_zero] at f0 f1 f2 f3 f4
          have hokz := hd (show (l[0].up = -1 ∧ l[0].no = 0) → okN l 0 from fun h _ => by rw [if_pos rfl]; exact h)
          have hnok := hd (show ¬ (l[0].up = -1 ∧ l[0].no = 0) → ¬ okN l 0 from fun h g => h (by have := g hlt; rw [if_pos rfl] at this; exact this))
          clear hX
          generalize l[0].num = xn at *
          generalize l[0].text = xt at *
          generalize l[0].many = xm at *
          generalize l[0].up = xu at *
          generalize l[0].no = xo at *
          by_cases hu : xu = -1
          · subst hu
            by_cases ho : xo = 0
            · subst ho
              have hn2 := hd (hnext.out (hokz.out ⟨rfl, rfl⟩))
              go_wp2_with fail
              go_roundw
              case rel => exact ⟨0 + 1, by omega, by go_num, hn2, hln.out _⟩
              case measure => simp [intOf]; omega
            · have hob : (xo != 0) = true := by simpa using ho
              have hrf := hd (hbi.out (hnok.out (fun q => ho q.2)))
              go_wp2_with fail
              go_ret
              exact ⟨by rw [hrf.out]; rfl, hbn.out _⟩
          · have hub : (xu != -1) = true := by simpa using hu
            have hrf := hd (hbi.out (hnok.out (fun q => hu q.1)))
            go_wp2_with fail
            go_ret
            exact ⟨by rw [hrf.out]; rfl, hbn.out _⟩
        · have hi0b : ((i : Int) == 0) = false := by simp; omega
          have hokz := hd (show aroundP (trees l) i → okN l i from fun h _ => by rw [if_neg hi0]; exact h)
          have hnok := hd (show ¬ aroundP (trees l) i → ¬ okN l i from fun h g => h (by have := g hlt; rw [if_neg hi0] at this; exact this))
          generalize l[i].num = xn at *
          generalize l[i].text = xt at *
          generalize l[i].many = xm at *
          generalize l[i].up = xu at *
          generalize l[i].no = xo at *
          by_cases hu0 : xu < 0
          · have hrf := hd (hbi.out (hnok.out (fun q => by obtain ⟨q, hq, _⟩ := q; rw [hUi.out] at hq; omega)))
            go_wp2_with fail
            go_ret
            exact ⟨by rw [hrf.out]; rfl, hbn.out _⟩
          · by_cases hui : (i : Int) ≤ xu
            · have hrf := hd (hbi.out (hnok.out (fun q => by
                obtain ⟨q, hq, hA, _⟩ := q
                rw [hUi.out] at hq
                have := hA.le (n := i - 1) (fun k hk => ok_up hok.out k (by omega)) (Nat.le_refl _)
                omega)))
              go_wp2_with fail
              go_ret
              exact ⟨by rw [hrf.out]; rfl, hbn.out _⟩
            · obtain ⟨q, rfl⟩ := Int.eq_ofNat_of_zero_le (show 0 ≤ xu by omega)
              have hqi : q < i := by omega
              have hql : q < l.length := by omega
              have hqI : (q : Int) < (l.length : Int) := by omega
              obtain ⟨g0, g1, g2, g3, g4⟩ := Cells.rowNode l q hql (hC.out.mono hbw.out)
              have g4a := fun o => keepCell (below_a1 wo (a := o)) g4
              have qa := fun o => keepCell (below_a1 wo (a := o)) qo
              have hqh := hd (show l[q].many = true ↔ ∃ h : q < (trees l).length, holdsB (trees l)[q].kind = true by
                constructor
                · intro hm; refine ⟨by rw [trees_len]; exact hql, ?_⟩; rw [trees_at hql]; simp [nT, hm, holdsB]
                · rintro ⟨h1, h2⟩; rw [trees_at hql] at h2
                  cases hm : l[q].many with
                  | true => rfl
                  | false => simp [nT, hm, holdsB] at h2)
              generalize l[q].many = qm at *
              clear g0 g1 g2 g3
              cases qm with
              | false =>
                have hrf := hd (hbi.out (hnok.out (fun p => by
                  obtain ⟨p, hp, _, hh⟩ := p
                  rw [hUi.out] at hp
                  have e : p = q := by omega
                  subst e
                  exact absurd (hqh.out.2 hh) (by simp))))
                go_wp2_with fail
                go_ret
                exact ⟨by rw [hrf.out]; rfl, hbn.out _⟩
              | true =>
                obtain ⟨arr, harr⟩ := boolOf (Anc (trees l) (i - 1) q)
                have harr := hd harr
                have hyes := hd (fun (e : arr = true) => hnext.out (hokz.out ⟨q, hUi.out, harr.out.1 e, hqh.out.1 rfl⟩))
                have hnot := hd (fun (e : arr = false) => hbi.out (hnok.out (fun p => by
                  obtain ⟨p, hp, hA, _⟩ := p
                  rw [hUi.out] at hp
                  have e2 : p = q := by omega
                  subst e2
                  rw [harr.out.2 hA] at e
                  exact absurd e (by simp))))
                have hups := hd (fun k (hk : k < i) => ok_up hok.out k hk)
                have hw1 : IntKind.i64.wrap ((i : Int) - 1) = ((i - 1 : Nat) : Int) := by rw [IntWalk.i64_in _ (by omega)]; omega
                have hCw := hd (hC.out.mono hbw.out)
                have hlnW := hd (hln.out (.cells #[.int .i64 xn, .string xt, .int .i64 xo, .int .i64 q, .bool xm] 113))
                have hbnW := hd (hbn.out (.cells #[.int .i64 xn, .string xt, .int .i64 xo, .int .i64 q, .bool xm] 113))
                have hXW := hd (hX.out 113)
                have qa2 := hd (qa (.cells #[.int .i64 xn, .string xt, .int .i64 xo, .int .i64 q, .bool xm] 113))
                clear g4 hqh hnext hbi hokz hnok hln hbn hX
                go_wp2_with fail
                go_loop [5, 6] (fun ar n => ∃ (b : Bool) (m : Int), ar = .bool b ∧ n = .int .i64 m ∧ m < i ∧ Hd (arr = true ↔ b = true ∨ ∃ j : Nat, m = (j : Int) ∧ Anc (trees l) j q)) (fun _ n => (intOf n + 1).toNat)
                case atStart =>
                  refine ⟨false, ((i - 1 : Nat) : Int), rfl, rfl, by omega, ?_⟩
                  show arr = true ↔ _
                  rw [harr.out]
                  constructor
                  · intro h; exact .inr ⟨i - 1, rfl, h⟩
                  · rintro (h | ⟨j, hj, h⟩)
                    · cases h
                    · have e : j = i - 1 := by omega
                      subst e; exact h
                case round =>
                  obtain ⟨b, m, rfl, rfl, hm, hrel⟩ := hrel
                  have x3 := hXW.out.1 3 _ rfl
                  by_cases h0 : 0 ≤ m
                  · obtain ⟨j, rfl⟩ := Int.eq_ofNat_of_zero_le h0
                    have hjl : j < l.length := by omega
                    have hjI : (j : Int) < (l.length : Int) := by omega
                    have hj0 : (0 : Int) ≤ (j : Int) := by omega
                    obtain ⟨g0, g1, g2, g3, g4⟩ := Cells.rowNode l j hjl (hCw.out.mono (below_a1 wo (a := .cells #[.int .i64 xn, .string xt, .int .i64 xo, .int .i64 q, .bool xm] 113)))
                    have hUj := hd (UN_at hjl)
                    have hlt2 := hups.out j (by omega)
                    rw [hUj.out] at hlt2
                    generalize l[j].up = uj at *
                    have qx := qa2.out
                    clear g0 g1 g2 g4
                    by_cases hbb : b = true
                    · have hA := hd (fun (_ : Unit) => hrel.out.2 (.inl hbb))
                      clear hrel
                      go_wp2_with fail
                      go_round
                      case rel => exact ⟨true, uj, by first | rfl | simp [hbb], rfl, by omega, ⟨fun _ => .inl rfl, fun _ => hA.out ()⟩⟩
                      case measure => simp [intOf]; omega
                    · replace hbb : b = false := by simpa using hbb
                      subst hbb
                      by_cases he : j = q
                      · subst he
                        have hA := hd (fun (_ : Unit) => hrel.out.2 (.inr ⟨j, rfl, .refl j⟩))
                        clear hrel
                        go_wp2_with fail
                        go_round
                        case rel => exact ⟨true, uj, rfl, rfl, by omega, ⟨fun _ => .inl rfl, fun _ => hA.out ()⟩⟩
                        case measure => simp [intOf]; omega
                      · have heb : ((j : Int) == (q : Int)) = false := by simp; omega
                        have hnx := hd (show arr = true ↔ false = true ∨ ∃ k : Nat, uj = (k : Int) ∧ Anc (trees l) k q by
                          rw [hrel.out]
                          constructor
                          · rintro (h | ⟨j', h1, h3⟩)
                            · cases h
                            · have e : j' = j := by omega
                              subst e
                              rcases h3.inv with h4 | ⟨p, h4, h5⟩
                              · exact absurd h4 he
                              · exact .inr ⟨p, by rw [← hUj.out]; exact h4, h5⟩
                          · rintro (h | ⟨k, h1, h3⟩)
                            · cases h
                            · exact .inr ⟨j, rfl, .up j k q (by rw [hUj.out]; exact h1) h3⟩)
                        go_wp2_with fail
                        go_round
                        case rel => exact ⟨false, uj, rfl, rfl, by omega, hnx⟩
                        case measure => simp [intOf]; omega
                  · have h0I : ¬ (0 : Int) ≤ m := h0
                    cases b with
                    | true =>
                      have hn2 := hd (hyes.out (hrel.out.2 (.inl rfl)))
                      clear x3
                      go_wp2_with fail
                      go_roundw
                      case rel => exact ⟨i + 1, by omega, by go_num, hn2, hlnW⟩
                      case measure => simp [intOf]; omega
                    | false =>
                      have hrf := hd (hnot.out (by
                        rw [← Bool.not_eq_true, hrel.out]
                        rintro (h | ⟨j, h1, _⟩)
                        · cases h
                        · omega))
                      clear x3
                      go_wp2_with fail
                      go_ret
                      exact ⟨by rw [hrf.out]; rfl, hbnW.out⟩
      · obtain rfl : i = l.length := by omega
        have hltI : ¬ (l.length : Int) < (l.length : Int) := by omega
        have hfin := hd (hfin.out hok.out)
        go_wp2_with fail
        refine (hfin.out _).mono ?_
        rintro e w' ⟨rfl, rfl⟩
        go_wp2_with fail
        go_ret
        exact ⟨rfl, hbw.out⟩
end Go.Proofs.Ytobahkjbadamhaa
