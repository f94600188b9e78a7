/- The reference's tree of a flat list: l2Tree. -/
import Derived.Test.YtobahkjbadamhaaKindT
import Derived.Test.YtobahkjbadamhaaKindP
import Derived.Deep.RegionLaw
namespace Go.Proofs.Ytobahkjbadamhaa
open Go.RowKit
set_option linter.unusedVariables false
set_option maxRecDepth 100000
theorem infoT : (Try.prog.info? 74).map (fun i => (i.zero, i.size, i.bytes)) = some (some (.agg #[.int .i64 0, .string ⟨#[]⟩, .int .i64 0, .bool false, .int .i64 0, .slice none 0 0]), 6, 72) := by kernel_rfl
def SepT (w : World) (b : Nat) (s : Value) (ps : List K) (vs : List (List Value)) : Prop :=
  vs.length = ps.length ∧ ∀ i (h : i < ps.length) (h' : i < vs.length), ∃ lo hi, b < lo ∧ hi ≤ w.heap.size ∧ (∀ g, s.ownBlock = some g → g < lo ∨ hi ≤ g) ∧ RepT w lo hi ps[i] vs[i]
theorem SepT.nil {w : World} {b : Nat} {s : Value} : SepT w b s [] [] := ⟨rfl, fun i h => by simp at h⟩
theorem SepT.step {w w1 w2 w3 w4 : World} {b : Nat} {s s' : Value} {ps : List K} {vs : List (List Value)} {p : K} {v : List Value} {u : Value} (h : SepT w b s ps vs) (hb : b < w.heap.size) (hs : ∀ g, s.ownBlock = some g → g < w.heap.size)
    (h1 : Below w.heap.size w w1) (hr : RepT w1 w.heap.size w1.heap.size p v) (h2 : w1.heap.size ≤ w2.heap.size) (h2b : Below w1.heap.size w1 w2) (h3 : w2.grownBy w3 s.ownBlock) (hs' : s'.ownBlock = s.ownBlock ∨ s'.ownBlock = some w2.heap.size) (h4 : w4 = w3.setCell ⟨b, 5, none⟩ u) : SepT w4 b s' (ps ++ [p]) (vs ++ [v]) := by
  subst h4
  have hsz : w3.heap.size ≤ (w3.setCell ⟨b, 5, none⟩ u).heap.size := (grownBy_setCell w3 ⟨b, 5, none⟩ u).size
  have z1 := h1.size
  have z3 := h3.size
  have carry : ∀ lo hi (t : K) (x : List Value), b < lo → hi ≤ w1.heap.size → (∀ g, s.ownBlock = some g → g < lo ∨ hi ≤ g) → RepT w1 lo hi t x →
      hi ≤ (w3.setCell ⟨b, 5, none⟩ u).heap.size ∧ (∀ g, s'.ownBlock = some g → g < lo ∨ hi ≤ g) ∧ RepT (w3.setCell ⟨b, 5, none⟩ u) lo hi t x := by
    intro lo hi t x g1 g2 g3 g4
    refine ⟨by omega, ?_, ?_⟩
    · intro g hg
      rcases hs' with e | e
      · exact g3 g (by rw [← e]; exact hg)
      · rw [e] at hg; cases hg; right; omega
    · have k1 := RepT.same (Same.below h2b g2) (Nat.le_refl _) (Nat.le_refl _) t x g4
      have k2 := RepT.same (Same.grown h3 (by omega) g3) (Nat.le_refl _) (Nat.le_refl _) t x k1
      exact RepT.same (Same.grown (grownBy_setCell w3 ⟨b, 5, none⟩ u) (by omega) (fun g hg => by cases hg; left; exact g1)) (Nat.le_refl _) (Nat.le_refl _) t x k2
  refine ⟨by simp [h.1], fun i g g' => ?_⟩
  by_cases hi : i < ps.length
  · have hi' : i < vs.length := by rw [h.1]; exact hi
    obtain ⟨lo, hi2, q1, q2, q3, q4⟩ := h.2 i hi hi'
    have q5 := RepT.same (Same.below h1 q2) (Nat.le_refl _) (Nat.le_refl _) _ _ q4
    obtain ⟨r1, r2, r3⟩ := carry lo hi2 ps[i] vs[i] q1 (by omega) q3 q5
    refine ⟨lo, hi2, q1, r1, r2, ?_⟩
    rw [List.getElem_append_left hi, List.getElem_append_left hi']; exact r3
  · have e : i = ps.length := by simp at g; omega
    subst e
    obtain ⟨r1, r2, r3⟩ := carry w.heap.size w1.heap.size p v hb (Nat.le_refl _) (fun g hg => .inl (hs g hg)) hr
    refine ⟨w.heap.size, w1.heap.size, hb, r1, r2, ?_⟩
    rw [List.getElem_append_right (Nat.le_refl _), List.getElem_append_right (by rw [h.1]; exact Nat.le_refl _)]
    simpa [h.1] using r3
theorem SepT.below {w w' : World} {b : Nat} {s : Value} {ps : List K} {vs : List (List Value)} (h : SepT w b s ps vs) (hb : Same w w' 0 w.heap.size) (hz : w.heap.size ≤ w'.heap.size) : SepT w' b s ps vs :=
  ⟨h.1, fun i h1 h2 => by
    obtain ⟨lo, hi, q1, q2, q3, q4⟩ := h.2 i h1 h2
    exact ⟨lo, hi, q1, Nat.le_trans q2 hz, q3, RepT.same (fun b h1 h2 o => hb b (Nat.zero_le _) (by omega) o) (Nat.le_refl _) (Nat.le_refl _) _ _ q4⟩⟩
theorem SepT.rep {w : World} {b B : Nat} {s : Value} {ps : List K} {vs : List (List Value)} (h : SepT w b s ps vs) (hB : B ≤ b) : RepTs w B w.heap.size ps vs :=
  RepTs.mk ps vs h.1 (fun j h1 h2 => by
    obtain ⟨lo, hi, q1, q2, _, q4⟩ := h.2 j h1 h2
    exact RepT.same (fun _ _ _ _ => rfl) (by omega) q2 _ _ q4)
theorem RSl.own {w : World} {B E hi : Nat} {s : Value} {rows : List (List Value)} (h : Own w B E 6 s rows) (hs : ∀ g, s.ownBlock = some g → g < hi) : RSl w B hi s rows := by
  by_cases hn : rows = []
  · subst hn
    obtain ⟨a, c, e, _⟩ := h.sl
    exact ⟨a, c, e, .inl rfl⟩
  · obtain ⟨g, c, e, hg1, hg2⟩ := h.addr hn
    subst e
    refine ⟨_, c, rfl, .inr ⟨g, rfl, ⟨hg1, hs g rfl⟩, fun i r hr j u hu => (h.cell hr hu).1⟩⟩
def TreePost (t : K) (w : World) (e : Ending) (w' : World) : Prop := ∃ r : List Value, e = .returned (.agg r.toArray) ∧ RepT w' w.heap.size w'.heap.size t r ∧ Below w.heap.size w w'
theorem rowT_one {o : Int} {nm : ByteArray} {no : Int} {mu : Bool} {mo : Int} {a : Option Addr} {n c : Nat} : ∀ u ∈ [[Value.int .i64 o, .string nm, .int .i64 no, .bool mu, .int .i64 mo, .slice a n c]].flatten, u.oneCell' = true := by
  intro u hu
  simp at hu
  rcases hu with rfl | rfl | rfl | rfl | rfl | rfl <;> rfl
theorem grownBy_setCells (g : Nat) : ∀ (us : List Value) (w : World) (p : Nat), w.grownBy (setCells w g p us) (some g) := by
  intro us
  induction us with
  | nil => intro w p; exact grownBy_refl _ _
  | cons u us ih => intro w p; exact grownBy_trans (grownBy_setCell w ⟨g, p, none⟩ u) (ih _ _) (.inl rfl)
set_option maxHeartbeats 6400000 in
theorem tree_s (l : List DType) (b1 o1 c : Nat) (hl : l.length ≤ 1000000) (t : K) : ∀ (k : Nat) (w : World), Sb l k t → Cells w b1 o1 6 (l.map DType.enc) → countK t ≤ 1000000 →
    Calls Try.prog 51 #[.agg #[.slice (some ⟨b1, o1, none⟩) l.length c], .int .i64 k] w (TreePost t w) := by
  refine K.ind (P := fun t => ∀ (k : Nat) (w : World), Sb l k t → Cells w b1 o1 6 (l.map DType.enc) → countK t ≤ 1000000 →
    Calls Try.prog 51 #[.agg #[.slice (some ⟨b1, o1, none⟩) l.length c], .int .i64 k] w (TreePost t w)) ?_ t
  intro o nm no mu mo ps ih k w hSb C hcnt
  have ih := hd ih
  have hC := hd C
  obtain ⟨⟨hk, hk0, hk1, hk2, hk3, hk4⟩, _, hkd1, hkd2⟩ := hSb.kids
  have hkI : (k : Int) < (l.length : Int) := by omega
  have hcc : countL ps ≤ 1000000 := by rw [countK] at hcnt; omega
  have hpl : ps.length ≤ 1000000 := by have := len_count ps; omega
  have hcp := hd (fun p (hp : p ∈ ps) => Nat.le_trans (count_part hp) hcc)
  have hkd2 := hd hkd2
  obtain ⟨qs, hqs⟩ : ∃ qs, qs = kidsOf l k := ⟨_, rfl⟩
  rw [← hqs] at hkd1
  have hkd2 := hd (show ∀ j (h : j < qs.length) (h' : j < ps.length), Sb l qs[j] ps[j] by rw [hqs]; exact hkd2.out)
  obtain ⟨i0, hi, hz0, hz1, hz2⟩ := info_parts infoT
  have Hi := hd hi; have Hz0 := hd hz0; have Hz1 := hd hz1; have Hz2 := hd hz2
  clear hi hz0 hz1 hz2
  have hq := hd (show ((w.alloc (.cells #[.slice (some ⟨b1, o1, none⟩) l.length c] 28)).alloc (.cells #[.int .i64 0, .string ⟨#[]⟩, .int .i64 0, .bool false, .int .i64 0, .slice none 0 0] 74)).cell? ⟨w.heap.size, 0, none⟩ = some (.slice (some ⟨b1, o1, none⟩) l.length c) by go_simp)
  have hXr := hd (show BoxN ((w.alloc (.cells #[.slice (some ⟨b1, o1, none⟩) l.length c] 28)).alloc (.cells #[.int .i64 0, .string ⟨#[]⟩, .int .i64 0, .bool false, .int .i64 0, .slice none 0 0] 74)) (w.heap.size + 1) [.int .i64 0, .string ⟨#[]⟩, .int .i64 0, .bool false, .int .i64 0, .slice none 0 0] from by have := BoxN.new (w.alloc (.cells #[.slice (some ⟨b1, o1, none⟩) l.length c] 28)) [.int .i64 0, .string ⟨#[]⟩, .int .i64 0, .bool false, .int .i64 0, .slice none 0 0] 74; rwa [World.size_alloc] at this)
  obtain ⟨V, hV⟩ : ∃ V, V = (w.alloc (.cells #[.slice (some ⟨b1, o1, none⟩) l.length c] 28)).alloc (.cells #[.int .i64 0, .string ⟨#[]⟩, .int .i64 0, .bool false, .int .i64 0, .slice none 0 0] 74) := ⟨_, rfl⟩
  have hbV := hd (show Below w.heap.size w V by rw [hV]; exact below_a2 w)
  have hsV : V.heap.size = w.heap.size + 2 := by rw [hV]; simp
  rw [← hV] at hq hXr
  replace hV := hd hV
  obtain ⟨f0, f1, f2, f3, f4, f5⟩ := Cells.rowType l k hk (hC.out.mono hbV.out)
  rw [hk0] at f0
  rw [hk1] at f1
  rw [hk2] at f2
  rw [hk3] at f3
  rw [hk4] at f5
  generalize l[k].up = ux at *
  clear hk0 hk1 hk2 hk3 hk4 C hSb hcnt
  go_enter Try.func51, Try.ntmps51
  go_upto_region 1 with (fail)
  rw [← hV.out]
  clear hV
  have qV := hq.out
  go_upto_region 3 with (fail)
  have pf := keepCell (below_a2 V (a := (.cells #[.int .i64 o, .string nm, .int .i64 no, .bool mu, .int .i64 ux, .int .i64 mo] 71)) (b := (.cells #[.int .i64 o, .string nm, .int .i64 no, .bool mu, .int .i64 mo, .slice none 0 0] 74))) hq.out
  have hXo := hd (show BoxN ((V.alloc (.cells #[.int .i64 o, .string nm, .int .i64 no, .bool mu, .int .i64 ux, .int .i64 mo] 71)).alloc (.cells #[.int .i64 o, .string nm, .int .i64 no, .bool mu, .int .i64 mo, .slice none 0 0] 74)) (w.heap.size + 2 + 1) [.int .i64 o, .string nm, .int .i64 no, .bool mu, .int .i64 mo, .slice none 0 0] from by have := BoxN.new (V.alloc (.cells #[.int .i64 o, .string nm, .int .i64 no, .bool mu, .int .i64 ux, .int .i64 mo] 71)) [.int .i64 o, .string nm, .int .i64 no, .bool mu, .int .i64 mo, .slice none 0 0] 74; rwa [World.size_alloc, hsV] at this)
  have hXr2 := hd (hXr.out.below (below_a2 V (a := (.cells #[.int .i64 o, .string nm, .int .i64 no, .bool mu, .int .i64 ux, .int .i64 mo] 71)) (b := (.cells #[.int .i64 o, .string nm, .int .i64 no, .bool mu, .int .i64 mo, .slice none 0 0] 74))))
  have hbW := hd (hbV.out.next (below_a2 V (a := (.cells #[.int .i64 o, .string nm, .int .i64 no, .bool mu, .int .i64 ux, .int .i64 mo] 71)) (b := (.cells #[.int .i64 o, .string nm, .int .i64 no, .bool mu, .int .i64 mo, .slice none 0 0] 74))))
  have hsW : ((V.alloc (.cells #[.int .i64 o, .string nm, .int .i64 no, .bool mu, .int .i64 ux, .int .i64 mo] 71)).alloc (.cells #[.int .i64 o, .string nm, .int .i64 no, .bool mu, .int .i64 mo, .slice none 0 0] 74)).heap.size = w.heap.size + 4 := by simp; omega
  generalize (V.alloc (.cells #[.int .i64 o, .string nm, .int .i64 no, .bool mu, .int .i64 ux, .int .i64 mo] 71)).alloc (.cells #[.int .i64 o, .string nm, .int .i64 no, .bool mu, .int .i64 mo, .slice none 0 0] 74) = W at *
  clear f0 f1 f2 f3 f4 f5 qV hXr hbV hq hsV
  have ck := hd (kids_s l _ k W hl (show Sl W (.slice (some ⟨b1, o1, none⟩) l.length c) 6 (l.map DType.enc) from ⟨_, c, by rw [List.length_map], .inr ⟨b1, o1, rfl, hC.out.mono hbW.out⟩⟩) hk)
  go_wp2_with fail
  refine ck.out.mono ?_
  rintro e w3 ⟨vK, rfl, hoK, hb3⟩
  rw [← hqs] at hoK
  obtain ⟨aK, cK, rfl, hrK⟩ := hoK.sl
  have hrK := hd hrK
  have hKB := hd hoK.lt
  simp only [List.length_map] at *
  have hz3 := hb3.size
  have qf := keepCell hb3 pf
  have hXo3 := hd (hXo.out.below hb3)
  have hXr3 := hd (hXr2.out.below hb3)
  have hB3 := hd (hbW.out.next hb3)
  have hqlen : (qs.length : Int) = (ps.length : Int) := by omega
  clear hoK hb3 pf ck
  rw [hkd1]
  go_wp2_with fail
  go_loopw [29] (fun n wr => ∃ (j : Nat) (s : Value) (rows : List (List Value)), j ≤ ps.length ∧ n = .int .i64 j ∧ Hd (BoxN wr (w.heap.size + 2 + 1) [.int .i64 o, .string nm, .int .i64 no, .bool mu, .int .i64 mo, s]) ∧ Hd (Own wr w3.heap.size 74 6 s rows) ∧ Hd (SepT wr (w.heap.size + 2 + 1) s (ps.take j) rows) ∧ Hd (w3.grownBy wr (some (w.heap.size + 2 + 1)))) (fun n _ => ps.length - (intOf n).toNat)
  case atStart => exact ⟨0, .slice none 0 0, [], Nat.zero_le _, rfl, hXo3.out, Own.nil, SepT.nil, grownBy_refl _ _⟩
  case round =>
    obtain ⟨j, s, rows, hj, rfl, hX, hO, hSep, hG⟩ := hrel
    obtain ⟨wo, rfl⟩ : ∃ wo : World, wo = wr := ⟨_, rfl⟩
    have hzG := hG.out.size
    have qo := hG.out.cell qf (fun e => by have : w.heap.size = w.heap.size + 2 + 1 := Option.some.inj e; omega)
    have hXr4 := hd (hXr3.out.grown hG.out (fun e => by have : w.heap.size + 1 = w.heap.size + 2 + 1 := Option.some.inj e; omega))
    by_cases hlt : j < ps.length
    · have hltI : (j : Int) < (ps.length : Int) := by omega
      obtain ⟨bK, oK, rfl, CK⟩ := rows_at hrK.out (k := j) (by rw [List.length_map]; omega)
      have kq0 := CK.2 j (encN qs[j]) (by simp [show j < qs.length by omega]) 0 _ rfl
      rw [Nat.mul_one, Nat.add_zero] at kq0
      have kq := hG.out.cell kq0 (fun e => by have h1 : bK = w.heap.size + 2 + 1 := Option.some.inj e; have := hKB.out bK rfl; omega)
      have ci := hd (fun w' (hb : Below wo.heap.size wo w') => ih.out ps[j] (List.getElem_mem hlt) (qs[j]'(by omega)) w' (hkd2.out j (by omega) hlt)
        (Cells.mono (Cells.kept (hC.out.mono hB3.out) hG.out (fun e => by have h1 : b1 = w.heap.size + 2 + 1 := Option.some.inj e; have := hC.out.1; omega)) hb) (hcp.out _ (List.getElem_mem hlt)))
      have hvl : rows.length = j := by have := hSep.out.1; rw [List.length_take] at this; omega
      have htk := hd (show ps.take (j + 1) = ps.take j ++ [ps[j]] from List.take_succ_eq_append_getElem hlt)
      have y5 := hX.out.1 5 _ rfl
      have hbz := hX.out.2.2
      clear kq0 CK
      generalize ps[j] = p at *
      generalize (qs[j]'(by omega)) = qj at *
      go_wp2_with fail
      go_region_law (first
        | (refine step_appOwn (by rfl) _ _ _ (by rfl) w3.heap.size 74 i0 _ 6 72 Try.underlying72 Hi.out Hz0.out Hz1.out Hz2.out (by rfl) (by decide) _ rows [[.int .i64 p.of, .string p.name, .int .i64 p.no, .bool p.must, .int .i64 p.most, .slice a5 p.parts.length c5]] (by rfl) (hO5.out.below (below_a1 _)) _ 1 _ (by rfl) (by rfl) (one_row rfl) (cells_new _ _ _) rowT_one (by omega) (by decide) (by first | omega | exact Nat.le_refl _ | (simp; done) | (simp; omega)) ?_; intro s6 w6 ho6 hg6 hv6; obtain ⟨a6, c6, hs6, _⟩ := ho6.sl; rw [List.length_append, List.length_singleton, hvl] at hs6; subst hs6; have hX6 := hd ((hX5.out.below (below_a1 _)).grown hg6 (by intro e; have := (hO5.out.lt _ e.symm).1; omega)); have y6 := hX6.out.1 5 _ rfl; have r6 := hX6.out.2.1 5; have hg6 := hd hg6; have hv6 := hd hv6; have ho6 := hd ho6; have hz6 := hg6.out.size)
        | (go_simp; go_at_call 51; refine (ci.out _ (by first | exact Below.refl _ _ | exact (Below.refl _ _).drew)).mono ?_; rintro e' w5 ⟨r5, rfl, hr5, hb5⟩; obtain ⟨a5, c5, rows5, rfl, _⟩ := hr5.open; have hb5 := hd (show Below wo.heap.size wo w5 from by first | exact hb5 | exact (Below.refl _ wo).drew.next hb5); have hr5 := hd (show RepT w5 wo.heap.size w5.heap.size p _ from hr5); have hX5 := hd (hX.out.below hb5.out); have hO5 := hd (hO.out.below hb5.out); have hz5 := hb5.out.size; have y5b := hX5.out.1 5 _ rfl; have y5c := fun o => keepCell (below_a1 w5 (a := o)) y5b))
      all_goals
        have hne6 : ∀ g, (Value.slice a6 (j + 1) c6).ownBlock = some g → w3.heap.size ≤ g := fun g hg => (ho6.out.lt g hg).1
        have hX7 := hd (hX6.out.set (i := 5) (by simp) (.slice a6 (j + 1) c6))
        have hO7 := hd (ho6.out.kept (grownBy_setCell w6 ⟨w.heap.size + 2 + 1, 5, none⟩ (.slice a6 (j + 1) c6)) (.inr (fun e => by have : w3.heap.size ≤ w.heap.size + 2 + 1 := hne6 _ e; omega)))
        have hS7 := hd (SepT.step hSep.out hbz (fun g hg => (hO.out.lt g hg).2) hb5.out hr5.out (w2 := w5.alloc (.cells #[.int .i64 p.of, .string p.name, .int .i64 p.no, .bool p.must, .int .i64 p.most, .slice a5 p.parts.length c5] 74)) (by simp) (below_a1 w5) hg6.out hv6.out (w4 := w6.setCell ⟨w.heap.size + 2 + 1, 5, none⟩ (.slice a6 (j + 1) c6)) rfl)
        have hG7 := hd (show w3.grownBy (w6.setCell ⟨w.heap.size + 2 + 1, 5, none⟩ (.slice a6 (j + 1) c6)) (some (w.heap.size + 2 + 1)) from grownBy_trans (grownBy_trans (grownBy_trans (grownBy_trans hG.out (below_grownBy hb5.out (some (w.heap.size + 2 + 1))) (.inl rfl)) (below_grownBy (below_a1 w5 (a := .cells #[.int .i64 p.of, .string p.name, .int .i64 p.no, .bool p.must, .int .i64 p.most, .slice a5 p.parts.length c5] 74)) (some (w.heap.size + 2 + 1))) (.inl rfl)) hg6.out (.inr (fun g hg => (hO5.out.lt g hg).1))) (grownBy_setCell w6 ⟨w.heap.size + 2 + 1, 5, none⟩ _) (.inl rfl))
        go_wp2_with fail
        go_roundw
        case rel => exact ⟨j + 1, .slice a6 (j + 1) c6, _, by omega, by go_num, hX7.out, hO7.out, by rw [htk.out]; exact hS7.out, hG7.out⟩
        case measure => simp [intOf]; omega
    · obtain rfl : j = ps.length := by omega
      have hltI : ¬ (ps.length : Int) < (ps.length : Int) := by omega
      rw [List.take_length] at hSep
      have y0 := hX.out.1 0 _ rfl; have y1 := hX.out.1 1 _ rfl; have y2 := hX.out.1 2 _ rfl; have y3 := hX.out.1 3 _ rfl; have y4 := hX.out.1 4 _ rfl; have y5 := hX.out.1 5 _ rfl
      have z0 := hXr4.out.1 0 _ rfl; have rz0 := hXr4.out.2.1 0; have z1 := hXr4.out.1 1 _ rfl; have rz1 := hXr4.out.2.1 1; have z2 := hXr4.out.1 2 _ rfl; have rz2 := hXr4.out.2.1 2; have z3 := hXr4.out.1 3 _ rfl; have rz3 := hXr4.out.2.1 3; have z4 := hXr4.out.1 4 _ rfl; have rz4 := hXr4.out.2.1 4; have z5 := hXr4.out.1 5 _ rfl; have rz5 := hXr4.out.2.1 5
      obtain ⟨aS, cS, rfl, _⟩ := hO.out.sl
      go_wp2_with fail
      have hGf := grownBy_setCells (w.heap.size + 1) [.int .i64 o, .string nm, .int .i64 no, .bool mu, .int .i64 mo, .slice aS rows.length cS] wo 0
      have hfin := hd (show RepT (setCells wo (w.heap.size + 1) 0 [.int .i64 o, .string nm, .int .i64 no, .bool mu, .int .i64 mo, .slice aS rows.length cS]) w.heap.size (setCells wo (w.heap.size + 1) 0 [.int .i64 o, .string nm, .int .i64 no, .bool mu, .int .i64 mo, .slice aS rows.length cS]).heap.size (.mk o nm no mu mo ps) [.int .i64 o, .string nm, .int .i64 no, .bool mu, .int .i64 mo, .slice aS rows.length cS] from by
        rw [RepT]
        exact ⟨.slice aS rows.length cS, rows, rfl, (RSl.own hO.out (fun g hg => (hO.out.lt g hg).2)).same (Same.grown hGf (Nat.le_refl _) (fun g hg => by cases hg; left; omega)) (by omega) hGf.size,
          RepTs.same (Same.grown hGf (Nat.le_refl _) (fun g hg => by cases hg; left; omega)) (by omega) hGf.size ps (fun p _ v hv => RepT.same (Same.grown hGf (Nat.le_refl _) (fun g hg => by cases hg; left; omega)) (by omega) hGf.size p v hv) rows (hSep.out.rep (B := w.heap.size + 2) (by omega))⟩)
      have hbelow := hd (show Below w.heap.size w (setCells wo (w.heap.size + 1) 0 [.int .i64 o, .string nm, .int .i64 no, .bool mu, .int .i64 mo, .slice aS rows.length cS]) from by
        have h1 : Below w.heap.size w wo := hB3.out.grown hG.out hB3.out.size (fun g hg => by cases hg; omega)
        exact h1.grown hGf h1.size (fun g hg => by cases hg; omega))
      refine bodyPost_ret (v := .agg #[.int .i64 o, .string nm, .int .i64 no, .bool mu, .int .i64 mo, .slice aS rows.length cS]) (by simp [results, Try.results51, go_sem, z0, z1, z2, z3, z4, z5]) rfl ⟨[.int .i64 o, .string nm, .int .i64 no, .bool mu, .int .i64 mo, .slice aS rows.length cS], rfl, hfin.out, hbelow.out⟩
end Go.Proofs.Ytobahkjbadamhaa
