/- From a flat list to a tree: kindFrom of the program (with KindE). -/
import Derived.Test.YtcepnifcfkgaeaaDoorKindABC
import Derived.Deep.Cut
/- From a flat list to a tree: kindFrom of the program. -/
namespace Go.Proofs.YtcepnifcfkgaeaaDoor
open Go.RowKit
set_option linter.unusedVariables false
set_option maxRecDepth 100000
theorem infoPtr : (Tryd.prog.info? 42).map (fun i => (i.zero, i.size, i.bytes)) = some (some (.pointer none), 1, 8) := by kernel_rfl
set_option maxHeartbeats 400000 in
theorem holds_c (b : Nat) (o : Int) (w : World) (c0 : w.cell? ⟨b, 0, none⟩ = some (.int .i64 o)) (z : Bool) (hz : holdsB o = z) : Calls Tryd.prog 33 #[.pointer (some ⟨b, 0, none⟩)] w (fun e w' => e = .returned (.bool z) ∧ w = w') := by
  have hz := hd (show z = (o == 4 || o == 5) from hz.symm)
  cases h4 : (o == 4) with
  | true =>
    go_enter Tryd.func33, Tryd.ntmps33
    go_wp2_with fail
    go_ret
    exact ⟨by rw [hz.out, h4]; rfl, rfl⟩
  | false =>
    go_enter Tryd.func33, Tryd.ntmps33
    go_wp2_with fail
    go_ret
    exact ⟨by rw [hz.out, h4]; rfl, rfl⟩
/-- The parts of a type that is being made: each in blocks of its own, apart from the type's own block b and the slice's. -/
def Sep (w : World) (b : Nat) (s : Value) (ps : List K) (vs : List Value) : Prop :=
  vs.length = ps.length ∧ ∀ i (h : i < ps.length) (h' : i < vs.length), ∃ lo hi, b < lo ∧ hi ≤ w.heap.size ∧ (∀ g, s.ownBlock = some g → g < lo ∨ hi ≤ g) ∧ RepP w lo hi ps[i] vs[i]
theorem Sep.nil {w : World} {b : Nat} {s : Value} : Sep w b s [] [] := ⟨rfl, fun i h => by simp at h⟩
theorem Sep.step {w w1 w2 w3 w4 : World} {b : Nat} {s s' : Value} {ps : List K} {vs : List Value} {p : K} {v : Value} {u : Value} (h : Sep w b s ps vs) (hb : b < w.heap.size) (hs : ∀ g, s.ownBlock = some g → g < w.heap.size)
    (h1 : Below w.heap.size w w1) (hr : RepP w1 w.heap.size w1.heap.size p v) (h2 : w1.heap.size ≤ w2.heap.size) (h2b : Below w1.heap.size w1 w2) (h3 : w2.grownBy w3 s.ownBlock) (hs' : s'.ownBlock = s.ownBlock ∨ s'.ownBlock = some w2.heap.size) (h4 : w4 = w3.setCell ⟨b, 5, none⟩ u) : Sep w4 b s' (ps ++ [p]) (vs ++ [v]) := by
  subst h4
  have hsz : w3.heap.size ≤ (w3.setCell ⟨b, 5, none⟩ u).heap.size := (grownBy_setCell w3 ⟨b, 5, none⟩ u).size
  have z1 := h1.size
  have z3 := h3.size
  have carry : ∀ lo hi (t : K) (x : Value), b < lo → hi ≤ w1.heap.size → (∀ g, s.ownBlock = some g → g < lo ∨ hi ≤ g) → RepP w1 lo hi t x →
      hi ≤ (w3.setCell ⟨b, 5, none⟩ u).heap.size ∧ (∀ g, s'.ownBlock = some g → g < lo ∨ hi ≤ g) ∧ RepP (w3.setCell ⟨b, 5, none⟩ u) lo hi t x := by
    intro lo hi t x g1 g2 g3 g4
    refine ⟨by omega, ?_, ?_⟩
    · intro g hg
      rcases hs' with e | e
      · exact g3 g (by rw [← e]; exact hg)
      · rw [e] at hg; cases hg; right; omega
    · have k1 := RepP.same (Same.below h2b g2) (Nat.le_refl _) (Nat.le_refl _) t x g4
      have k2 := RepP.same (Same.grown h3 (by omega) g3) (Nat.le_refl _) (Nat.le_refl _) t x k1
      exact RepP.same (Same.grown (grownBy_setCell w3 ⟨b, 5, none⟩ u) (by omega) (fun g hg => by cases hg; left; exact g1)) (Nat.le_refl _) (Nat.le_refl _) t x k2
  refine ⟨by simp [h.1], fun i g g' => ?_⟩
  by_cases hi : i < ps.length
  · have hi' : i < vs.length := by rw [h.1]; exact hi
    obtain ⟨lo, hi2, q1, q2, q3, q4⟩ := h.2 i hi hi'
    have q5 := RepP.same (Same.below h1 q2) (Nat.le_refl _) (Nat.le_refl _) _ _ q4
    obtain ⟨r1, r2, r3⟩ := carry lo hi2 ps[i] vs[i] q1 (by omega) q3 q5
    refine ⟨lo, hi2, q1, r1, r2, ?_⟩
    rw [List.getElem_append_left hi, List.getElem_append_left hi']; exact r3
  · have e : i = ps.length := by simp at g; omega
    subst e
    obtain ⟨r1, r2, r3⟩ := carry w.heap.size w1.heap.size p v hb (Nat.le_refl _) (fun g hg => .inl (hs g hg)) hr
    refine ⟨w.heap.size, w1.heap.size, hb, r1, r2, ?_⟩
    rw [List.getElem_append_right (Nat.le_refl _), List.getElem_append_right (by rw [h.1]; exact Nat.le_refl _)]
    simpa [h.1] using r3
theorem RepL.mk {w : World} {lo hi : Nat} : ∀ (ps : List K) (vs : List Value), vs.length = ps.length → (∀ j (h : j < ps.length) (h' : j < vs.length), RepP w lo hi ps[j] vs[j]) → RepL w lo hi ps vs := by
  intro ps
  induction ps with
  | nil => intro vs h _; rw [RepL]; exact List.eq_nil_of_length_eq_zero (by simpa using h)
  | cons p ps ih =>
    intro vs h hp
    cases vs with
    | nil => simp at h
    | cons v vs =>
      rw [RepL]
      exact ⟨v, vs, rfl, hp 0 (by simp) (by simp), ih vs (by simpa using h) (fun j h1 h2 => hp (j + 1) (by simpa using h1) (by simpa using h2))⟩
theorem Sep.rep {w : World} {b B : Nat} {s : Value} {ps : List K} {vs : List Value} (h : Sep w b s ps vs) (hB : B ≤ b) : RepL w B w.heap.size ps vs :=
  RepL.mk ps vs h.1 (fun j h1 h2 => by obtain ⟨lo, hi, q1, q2, _, q4⟩ := h.2 j h1 h2; exact q4.wide (by omega) q2)
theorem Sep.below {w w' : World} {b : Nat} {s : Value} {ps : List K} {vs : List Value} (h : Sep w b s ps vs) (hb : Below w.heap.size w w') : Sep w' b s ps vs :=
  ⟨h.1, fun i h1 h2 => by obtain ⟨lo, hi, q1, q2, q3, q4⟩ := h.2 i h1 h2; exact ⟨lo, hi, q1, Nat.le_trans q2 hb.size, q3, q4.below q2 hb⟩⟩
def KfPost (t : K) (n : Nat) (w : World) (e : Ending) (w' : World) : Prop := ∃ v, e = .returned (.tuple #[v, .int .i64 n]) ∧ RepP w' w.heap.size w'.heap.size t v ∧ Below w.heap.size w w'
theorem encL_drop {l : List DType} : ∀ (ps : List K) (a e0 e j : Nat), encL l ps a e0 e → j < ps.length → ∃ ej, encL l (ps.drop j) a ej e ∧ U l ej = (a : Int) := by
  intro ps
  induction ps with
  | nil => intro a e0 e j _ h; simp at h
  | cons p ps ih =>
    intro a e0 e j h hj
    cases j with
    | zero => have h2 := h; rw [encL] at h2; obtain ⟨e1, hu, _⟩ := h2; exact ⟨e0, h, hu⟩
    | succ j =>
      rw [encL] at h
      obtain ⟨e1, hu, h1, h2⟩ := h
      exact ih a e1 e j h2 (by simpa using hj)
theorem drop_cons {ps : List K} {j : Nat} (h : j < ps.length) : ps.drop j = ps[j] :: ps.drop (j + 1) := List.drop_eq_getElem_cons h
theorem take_snoc {ps : List K} {j : Nat} (h : j < ps.length) : ps.take (j + 1) = ps.take j ++ [ps[j]] := List.take_succ_eq_append_getElem h
/-- A part of a tree that was read greedily was read greedily. -/
theorem Stuck.part {l : List DType} {a ej e1 e : Nat} {p : K} {ps : List K} (hs : Stuck l a e) (h1 : enc l p ej e1) (h2 : encL l ps a e1 e) (ha : a < ej) : Stuck l ej e1 := by
  intro b hb hA hho hu
  cases ps with
  | nil =>
    rw [encL] at h2
    subst h2
    exact hs b (by omega) hA hho hu
  | cons q qs =>
    rw [encL] at h2
    obtain ⟨_, hu2, _⟩ := h2
    omega
theorem BoxN.set {w : World} {b i : Nat} {cs : List Value} (h : BoxN w b cs) (hi : i < cs.length) (u : Value) : BoxN (w.setCell ⟨b, i, none⟩ u) b (cs.set i u) := by
  refine ⟨fun j x hx => ?_, fun j => by rw [World.frozen?_setCell]; exact h.2.1 j, Nat.lt_of_lt_of_le h.2.2 (grownBy_setCell w ⟨b, i, none⟩ u).size⟩
  by_cases e : j = i
  · subst e
    rw [List.getElem?_set_self hi] at hx
    cases hx
    exact World.cell?_setCell_same _ _ _ (h.1 j _ (List.getElem?_eq_getElem hi))
  · rw [List.getElem?_set_ne (Ne.symm e)] at hx
    rw [World.cell?_setCell_other _ _ _ _ (by intro e2; cases e2; exact e rfl)]
    exact h.1 j x hx
theorem one_ptr (v : Value) (b : Nat) (h : v = .pointer (some ⟨b, 0, none⟩)) : ∀ u ∈ [encV v].flatten, u.oneCell' = true := by
  subst h; intro u hu; simp [encV] at hu; subst hu; rfl
set_option maxHeartbeats 6400000 in
theorem kindFrom_i (l : List DType) (b1 o1 c : Nat) (hl : l.length ≤ 1000000) (t : K) : ∀ (a e : Nat) (w : World), enc l t a e → Stuck l a e → Cells w b1 o1 6 (l.map DType.enc) →
    Calls Tryd.prog 25 #[.slice (some ⟨b1, o1, none⟩) l.length c, .int .i64 a] w (KfPost t e w) := by
  refine K.ind (P := fun t => ∀ (a e : Nat) (w : World), enc l t a e → Stuck l a e → Cells w b1 o1 6 (l.map DType.enc) →
    Calls Tryd.prog 25 #[.slice (some ⟨b1, o1, none⟩) l.length c, .int .i64 a] w (KfPost t e w)) ?_ t
  intro o nm no mu mo ps ih a e w henc hst C
  have ih := hd ih
  have hC := hd C
  have henc0 := hd henc
  have hst := hd hst
  rw [enc] at henc
  obtain ⟨⟨x, hx, hk0, hk1, hk2, hk3, hk4⟩, hho, hL⟩ := henc
  obtain ⟨ha, rfl⟩ := List.getElem?_eq_some_iff.1 hx
  have haI : (a : Int) < (l.length : Int) := by omega
  obtain ⟨f0, f1, f2, f3, f4, f5⟩ := Cells.rowType l a ha C
  rw [hk0] at f0
  rw [hk1] at f1
  rw [hk2] at f2
  rw [hk3] at f3
  rw [hk4] at f5
  have hkind := hd hk0
  have hbd := encL_bd' hL (by omega) (by omega)
  have heB : e ≤ l.length := hbd.2.1
  have hho := hd hho
  have hL := hd hL
  obtain ⟨i0, hi, hz0, hz1, hz2⟩ := info_parts infoPtr
  have Hi := hd hi; have Hz0 := hd hz0; have Hz1 := hd hz1; have Hz2 := hd hz2
  clear hi hz0 hz1 hz2 hx hk0 hk1 hk2 hk3 hk4 hbd
  generalize l[a].up = ux at *
  have hw1 : IntKind.i64.wrap ((a : Int) + 1) = ((a + 1 : Nat) : Int) := by rw [IntWalk.i64_in _ (by omega)]; omega
  go_enter Tryd.func25, Tryd.ntmps25
  go_upto_region 3 with (fail)
  have hX := hd (show BoxN ((w.alloc (.cells #[.int .i64 o, .string nm, .int .i64 no, .bool mu, .int .i64 ux, .int .i64 mo] 50)).alloc (.cells #[.int .i64 o, .string nm, .int .i64 no, .bool mu, .int .i64 mo, .slice none 0 0] 62)) (w.heap.size + 1) [.int .i64 o, .string nm, .int .i64 no, .bool mu, .int .i64 mo, .slice none 0 0] from by have := BoxN.new (w.alloc (.cells #[.int .i64 o, .string nm, .int .i64 no, .bool mu, .int .i64 ux, .int .i64 mo] 50)) [.int .i64 o, .string nm, .int .i64 no, .bool mu, .int .i64 mo, .slice none 0 0] 62; rwa [World.size_alloc] at this)
  have hB := hd (below_a2 w (a := (.cells #[.int .i64 o, .string nm, .int .i64 no, .bool mu, .int .i64 ux, .int .i64 mo] 50)) (b := (.cells #[.int .i64 o, .string nm, .int .i64 no, .bool mu, .int .i64 mo, .slice none 0 0] 62)))
  have hsz : ((w.alloc (.cells #[.int .i64 o, .string nm, .int .i64 no, .bool mu, .int .i64 ux, .int .i64 mo] 50)).alloc (.cells #[.int .i64 o, .string nm, .int .i64 no, .bool mu, .int .i64 mo, .slice none 0 0] 62)).heap.size = w.heap.size + 2 := by simp
  generalize (w.alloc (.cells #[.int .i64 o, .string nm, .int .i64 no, .bool mu, .int .i64 ux, .int .i64 mo] 50)).alloc (.cells #[.int .i64 o, .string nm, .int .i64 no, .bool mu, .int .i64 mo, .slice none 0 0] 62) = W at *
  have hpc : ps.length ≤ 1000000 := by
    have h1 := enc_count _ _ _ henc0.out
    have h2 := len_count ps
    rw [countK] at h1
    omega
  clear f0 f1 f2 f3 f4 f5 C
  go_wp2_with fail
  go_loopw [8] (fun n wr => ∃ (j ej : Nat) (s : Value) (vs : List Value), j ≤ ps.length ∧ n = .int .i64 ej ∧ (a < ej ∧ ej ≤ e) ∧ Hd (encL l (ps.drop j) a ej e) ∧ Hd (BoxN wr (w.heap.size + 1) [.int .i64 o, .string nm, .int .i64 no, .bool mu, .int .i64 mo, s]) ∧ Hd (Own wr (w.heap.size + 2) 42 1 s (vs.map encV)) ∧ Hd (Sep wr (w.heap.size + 1) s (ps.take j) vs) ∧ Hd (Below w.heap.size w wr)) (fun n _ => l.length - (intOf n).toNat)
  case atStart => exact ⟨0, a + 1, .slice none 0 0, [], Nat.zero_le _, by go_num, by have := (encL_bd' hL.out (by omega) (by omega)).1; omega, hL.out, hX.out, Own.nil, Sep.nil, hB.out⟩
  case round =>
    obtain ⟨j, ej, s, vs, hj, rfl, ⟨hae, hee⟩, hLj, hX, hO, hSep, hbl⟩ := hrel
    obtain ⟨wo, rfl⟩ : ∃ wo : World, wo = wr := ⟨_, rfl⟩
    have x0 := hX.out.1 0 _ rfl
    by_cases hlt : j < ps.length
    · have hLd := hLj.out
      rw [drop_cons hlt, encL] at hLd
      obtain ⟨e1, hu, h1, h2⟩ := hLd
      obtain ⟨hb1, hb2, _⟩ := enc_bd _ _ _ h1
      have hel : ej < l.length := U_lt hu
      have helI : (ej : Int) < (l.length : Int) := by omega
      obtain ⟨g0, g1, g2, g3, g4, g5⟩ := Cells.rowType l ej hel (hC.out.mono hbl.out)
      rw [show l[ej].up = (a : Int) from by rw [← U_at hel, hu]] at g4
      have hholds : holdsB o = true := hho.out.resolve_right (by intro e; rw [e] at hlt; simp at hlt)
      have ch := hd (holds_c _ o wo x0 true hholds)
      have cf := hd (ih.out ps[j] (List.getElem_mem hlt) ej e1 wo h1 (hst.out.part h1 h2 hae) (hC.out.mono hbl.out))
      have he1e := (encL_bd' h2 (by omega) hb2).1
      have h2' := hd h2
      have hvl : vs.length = j := by have := hSep.out.1; rw [List.length_take] at this; omega
      have htk := hd (take_snoc hlt)
      clear g0 g1 g2 g3 g5 hu h1 h2 hholds
      generalize ps[j] = p at *
      go_wp2_with fail
      refine ch.out.mono ?_
      rintro e' w2 ⟨rfl, rfl⟩
      go_wp2_with fail
      refine cf.out.mono ?_
      rintro e' w5 ⟨vp, rfl, hrp, hb5⟩
      obtain ⟨bp, _, _, _, rfl, _⟩ := hrp.open
      have hone := hd (one_ptr (.pointer (some ⟨bp, 0, none⟩)) bp rfl)
      have hX5 := hd (hX.out.below hb5)
      have hO5 := hd (hO.out.below hb5)
      have hrp := hd hrp
      have hb5 := hd hb5
      have hz5 := hb5.out.size
      have y5 := hX5.out.1 5 _ rfl
      have hbz := hX.out.2.2
      have hB5 := hd (hbl.out.next hb5.out)
      clear x0 g4
      go_wp2_with (at_builtin; refine wpList_appOwn rfl (.tmp 56) (.tmp 58) 60 rfl (w.heap.size + 2) 42 i0 _ 1 8 Tryd.underlying60 Hi.out Hz0.out Hz1.out Hz2.out rfl (by decide) _ (vs.map encV) [encV (.pointer (some ⟨bp, 0, none⟩))] rfl (hO5.out.below (below_a1 _)) _ 1 1 rfl rfl (one_row rfl) (cells_new _ _ _) hone.out (by rw [List.length_map]; omega) (by decide) (by first | omega | exact Nat.le_refl _ | (simp; done) | (simp; omega)) ?_; intro s6 w6 ho6 hg6 hv6; obtain ⟨a6, c6, hs6, _⟩ := ho6.sl; rw [List.length_append, List.length_map, List.length_singleton, hvl] at hs6; subst hs6; have hX6 := hd ((hX5.out.below (below_a1 _)).grown hg6 (by intro e; have := (hO5.out.lt _ e.symm).1; omega)); have y6 := hX6.out.1 5 _ rfl; have r6 := hX6.out.2.1 5; have hg6 := hd hg6; have hv6 := hd hv6; have ho6 := hd ho6; have hz6 := hg6.out.size; clear y5)
      have hne6 : ∀ g, (Value.slice a6 (j + 1) c6).ownBlock = some g → w.heap.size + 2 ≤ g := fun g hg => (ho6.out.lt g hg).1
      have hX7 := hd (hX6.out.set (i := 5) (by simp) (.slice a6 (j + 1) c6))
      have hO7 := hd (ho6.out.kept (grownBy_setCell w6 ⟨w.heap.size + 1, 5, none⟩ (.slice a6 (j + 1) c6)) (.inr (fun e => by have : w.heap.size + 2 ≤ w.heap.size + 1 := hne6 _ e; omega)))
      have hS7 := hd (Sep.step hSep.out hbz (fun g hg => (hO.out.lt g hg).2) hb5.out hrp.out (w2 := w5.alloc (.cells #[.pointer (some ⟨bp, 0, none⟩)] 42)) (by simp) (below_a1 w5) hg6.out hv6.out (w4 := w6.setCell ⟨w.heap.size + 1, 5, none⟩ (.slice a6 (j + 1) c6)) rfl)
      have hB7 := hd (show Below w.heap.size w (w6.setCell ⟨w.heap.size + 1, 5, none⟩ (.slice a6 (j + 1) c6)) from Below.setCell ((hB5.out.next (below_a1 w5 (a := .cells #[.pointer (some ⟨bp, 0, none⟩)] 42))).grown hg6.out (by first | omega | exact Nat.le_refl _ | (simp; done) | (simp; omega)) (fun g hg => by have := (hO5.out.lt g hg).1; omega)) (by simp) _)
      go_roundw
      case rel => exact ⟨j + 1, e1, (.slice a6 (j + 1) c6), vs ++ [.pointer (some ⟨bp, 0, none⟩)], by omega, rfl, by omega, h2'.out, hX7.out, by rw [List.map_append]; exact hO7.out, by rw [htk.out]; exact hS7.out, hB7.out⟩
      case measure => simp [intOf]; omega
    · obtain rfl : j = ps.length := by omega
      have hee2 : ej = e := by have := hLj.out; rw [List.drop_length, encL] at this; exact this.symm
      subst hee2
      rw [List.take_length] at hSep
      have hfin := hd (show RepP wo w.heap.size wo.heap.size (.mk o nm no mu mo ps) (.pointer (some ⟨w.heap.size + 1, 0, none⟩)) from by
        rw [RepP]
        refine ⟨w.heap.size + 1, s, vs, rfl, ⟨by omega, hX.out.2.2⟩, ⟨hX.out.1 0 _ rfl, hX.out.1 1 _ rfl, hX.out.1 2 _ rfl, hX.out.1 3 _ rfl, hX.out.1 4 _ rfl, hX.out.1 5 _ rfl⟩, ?_, hSep.out.rep (by omega)⟩
        exact PSl.same (PSl.own hO.out (fun g hg => (hO.out.lt g hg).2)) (fun _ _ _ _ => rfl) (by omega) (Nat.le_refl _))
      cases hh : holdsB o with
      | false =>
        have ch := hd (holds_c _ o wo x0 false hh)
        replace hh := hd hh
        go_wp2_with fail
        refine ch.out.mono ?_
        rintro e' w2 ⟨rfl, rfl⟩
        go_wp2_with fail
        go_ret2
        exact ⟨_, rfl, hfin.out, hbl.out⟩
      | true =>
        have ch := hd (holds_c _ o wo x0 true hh)
        by_cases hel : ej < l.length
        · have helI : (ej : Int) < (l.length : Int) := by omega
          have hne := hst.out a (Nat.le_refl _) (enc_sp _ _ _ henc0.out).1 ⟨ha, by rw [hkind.out]; exact hh⟩
          rw [U_at hel] at hne
          obtain ⟨g0, g1, g2, g3, g4, g5⟩ := Cells.rowType l ej hel (hC.out.mono hbl.out)
          have hneb : (l[ej].up == (a : Int)) = false := by simpa using hne
          generalize l[ej].up = uy at *
          replace hh := hd hh
          clear hne g0 g1 g2 g3 g5
          go_wp2_with fail
          refine ch.out.mono ?_
          rintro e' w2 ⟨rfl, rfl⟩
          go_wp2_with fail
          go_ret2
          exact ⟨_, rfl, hfin.out, hbl.out⟩
        · have helI : ¬ (ej : Int) < (l.length : Int) := by omega
          replace hh := hd hh
          go_wp2_with fail
          refine ch.out.mono ?_
          rintro e' w2 ⟨rfl, rfl⟩
          go_wp2_with fail
          go_ret2
          exact ⟨_, rfl, hfin.out, hbl.out⟩
end Go.Proofs.YtcepnifcfkgaeaaDoor
/- A good schema as a tree: good, kindOf, GoodSchema of the program. -/
namespace Go.Proofs.YtcepnifcfkgaeaaDoor
open Go.RowKit
set_option linter.unusedVariables false
set_option maxRecDepth 100000
set_option maxHeartbeats 1600000 in
theorem good_i (t : K) (v : Value) (w : World) (lo hi : Nat) (hh : hi ≤ w.heap.size) (hc : countK t ≤ 1000000) (hnm : nmOK t) (h : RepP w lo hi t v) (r : Bool) (hr : r = true ↔ goodK t) :
    Calls Tryd.prog 26 #[v] w (BoolPost r w) := by
  obtain ⟨rr, hrr⟩ := boolOf (rightK t)
  have cr := hd (right_i t v w lo hi hh hc hnm h rr hrr)
  have cd := hd (fun w' (hb : Below w.heap.size w w') => deep_i t v w' lo hi (Nat.le_trans hh hb.size) hc (h.below hh hb))
  have cc := hd (fun w' (hb : Below w.heap.size w w') => count_i t v w' lo hi (Nat.le_trans hh hb.size) hc (h.below hh hb))
  obtain ⟨b, a, c, vs, rfl, hb, c0, c1, c2, c3, c4, c5, hS, hl, hg⟩ := h.open
  have hz := hd (show r = ((t.of == 5) && t.name.toList.isEmpty && (t.no == 0) && !t.must && rr && decide (deepK t ≤ 5) && decide ((countK t : Int) ≤ 30)) by
    rw [Bool.eq_iff_iff, hr, goodK, blankP]
    simp only [Bool.and_eq_true, beq_iff_eq, emp_iff, Bool.not_eq_true', decide_eq_true_eq, hrr]
    constructor
    · rintro ⟨g1, ⟨g2, g3, g4⟩, g5, g6, g7⟩; exact ⟨⟨⟨⟨⟨⟨g1, g2⟩, g3⟩, g4⟩, g5⟩, g6⟩, by omega⟩
    · rintro ⟨⟨⟨⟨⟨⟨g1, g2⟩, g3⟩, g4⟩, g5⟩, g6⟩, g7⟩; exact ⟨g1, ⟨g2, g3, g4⟩, g5, g6, by omega⟩)
  clear hr hrr c4 c5 hS hl hg h hnm
  generalize t.of = o at *
  generalize t.name = nm at *
  generalize t.no = no at *
  generalize t.must = mu at *
  generalize deepK t = d at *
  generalize (countK t : Int) = n at *
  cases h1 : (o == 5) with
  | false =>
    go_enter Tryd.func26, Tryd.ntmps26
    go_wp2_with fail
    go_ret
    exact ⟨by rw [hz.out, h1]; rfl, Below.refl _ _⟩
  | true =>
    cases h2 : nm.toList.isEmpty with
    | false =>
      go_enter Tryd.func26, Tryd.ntmps26
      go_wp2_with fail
      go_ret
      exact ⟨by rw [hz.out, h1, h2]; rfl, Below.refl _ _⟩
    | true =>
      cases h3 : (no == 0) with
      | false =>
        go_enter Tryd.func26, Tryd.ntmps26
        go_wp2_with fail
        go_ret
        exact ⟨by rw [hz.out, h1, h2, h3]; rfl, Below.refl _ _⟩
      | true =>
        cases mu with
        | true =>
          go_enter Tryd.func26, Tryd.ntmps26
          go_wp2_with fail
          go_ret
          exact ⟨by rw [hz.out, h1, h2, h3]; rfl, Below.refl _ _⟩
        | false =>
          cases rr with
          | false =>
            go_enter Tryd.func26, Tryd.ntmps26
            go_wp2_with fail
            refine cr.out.mono ?_
            rintro e w2 ⟨rfl, hb2⟩
            replace hb2 := hd hb2
            go_wp2_with fail
            go_ret
            exact ⟨by rw [hz.out, h1, h2, h3]; rfl, hb2.out⟩
          | true =>
            cases h5 : decide (d ≤ 5) with
            | false =>
              replace h5 := hd h5
              have h5b : ¬ d ≤ 5 := by have := h5.out; simpa using this
              go_enter Tryd.func26, Tryd.ntmps26
              go_wp2_with fail
              refine cr.out.mono ?_
              rintro e w2 ⟨rfl, hb2⟩
              replace hb2 := hd hb2
              go_wp2_with fail
              refine (cd.out _ hb2.out).mono ?_
              rintro e w3 ⟨rfl, hb3⟩
              have hB3 := hd (hb2.out.next hb3)
              clear hb3
              go_wp2_with fail
              go_ret
              exact ⟨by rw [hz.out, h1, h2, h3, h5.out]; rfl, hB3.out⟩
            | true =>
              replace h5 := hd h5
              have h5b : d ≤ 5 := by have := h5.out; simpa using this
              go_enter Tryd.func26, Tryd.ntmps26
              go_wp2_with fail
              refine cr.out.mono ?_
              rintro e w2 ⟨rfl, hb2⟩
              replace hb2 := hd hb2
              go_wp2_with fail
              refine (cd.out _ hb2.out).mono ?_
              rintro e w3 ⟨rfl, hb3⟩
              have hB3 := hd (hb2.out.next hb3)
              clear hb3
              go_wp2_with fail
              refine (cc.out _ hB3.out).mono ?_
              rintro e w4 ⟨rfl, hb4⟩
              have hB4 := hd (hB3.out.next hb4)
              clear hb4
              go_wp2_with fail
              go_ret
              exact ⟨by rw [hz.out, h1, h2, h3, h5.out]; rfl, hB4.out⟩
/-- A good schema's tree. -/
def treeOf (l : List DType) (t : K) : Prop := enc l t 0 l.length ∧ goodK t
theorem good_tree {l : List DType} (h : goodP l) : ∃ t, treeOf l t := by
  obtain ⟨hf, t, he, hd⟩ := h
  have hn := hf.1
  obtain ⟨h0, h1, h2, h3⟩ := hf.2.1
  obtain ⟨t2, e2, g1, g2⟩ := parse l.length 0 (by omega) h0 (fun i hi => by have : i = 0 := by omega
                                                                            subst this; rw [U_at h0, h2]; omega)
  obtain ⟨rfl, hg⟩ := (good_iff hn (by rw [U_at h0, h2]) g1 g2).2 ⟨hf, t, he, hd⟩
  exact ⟨t2, g1, hg⟩
theorem tree_good {l : List DType} {t : K} (h : treeOf l t) (h0 : ∃ h : 0 < l.length, l[0].up = -1) (hn : l.length ≤ 30) : goodP l := by
  obtain ⟨h1, h2, h3, h4, h5, h6⟩ := h
  obtain ⟨g, g2⟩ := h0
  exact ⟨flat_of_tree ⟨by omega, hn⟩ (by rw [U_at g, g2]) h1 h2 h3 h4, t, h1, h5⟩
theorem names_ok {l : List DType} (hs : ∀ x ∈ l, x.name.size ≤ 1000000000000) {t : K} {a e : Nat} (h : enc l t a e) : nmOK t := by
  have key : ∀ t : K, ∀ a e, enc l t a e → t.name.size ≤ 1000000000000 := by
    intro t a e h
    obtain ⟨o, nm, no, mu, mo, ps⟩ := t
    rw [enc] at h
    obtain ⟨⟨x, hx, ht⟩, _⟩ := h
    show nm.size ≤ _
    rw [← ht.2.1]; exact hs x (List.mem_of_getElem? hx)
  have sub : ∀ s t : K, InK s t → ∀ a e, enc l t a e → ∃ a' e', enc l s a' e' := by
    intro s t hi
    induction hi with
    | self t => intro a e h; exact ⟨a, e, h⟩
    | part o nm no mu mo ps p s hp _ ih =>
      intro a e h
      rw [enc] at h
      have hL := h.2.2
      have : ∀ (qs : List K) (e0 e : Nat), p ∈ qs → encL l qs a e0 e → ∃ a' e', enc l p a' e' := by
        intro qs
        induction qs with
        | nil => intro e0 e hp; cases hp
        | cons q qs ihq =>
          intro e0 e hp h
          rw [encL] at h
          obtain ⟨e1, _, g1, g2⟩ := h
          rcases List.mem_cons.1 hp with rfl | hp
          · exact ⟨_, _, g1⟩
          · exact ihq _ _ hp g2
      obtain ⟨a', e', g⟩ := this ps _ _ hp hL
      exact ih a' e' g
  intro s hs2
  obtain ⟨a', e', g⟩ := sub s t hs2 a e h
  exact key s a' e' g
def KoPost (l : List DType) (r : Bool) (w : World) (e : Ending) (w' : World) : Prop :=
  if r then ∃ t v, e = .returned v ∧ treeOf l t ∧ RepP w' w.heap.size w'.heap.size t v ∧ Below w.heap.size w w' else e = .returned (.pointer none) ∧ Below w.heap.size w w'
theorem KoPost_t {l : List DType} {w w' : World} {e : Ending} (h : KoPost l true w e w') : ∃ t v, e = .returned v ∧ treeOf l t ∧ RepP w' w.heap.size w'.heap.size t v ∧ Below w.heap.size w w' := h
theorem KoPost_f {l : List DType} {w w' : World} {e : Ending} (h : KoPost l false w e w') : e = .returned (.pointer none) ∧ Below w.heap.size w w' := h
set_option maxHeartbeats 1600000 in
theorem kindOf_i (l : List DType) (v : Value) (w : World) (hl : l.length ≤ 1000000000000) (hs : ∀ x ∈ l, x.name.size ≤ 1000000000000) (h : Sl w v 6 (l.map DType.enc)) (r : Bool) (hr : r = true ↔ goodP l) :
    Calls Tryd.prog 14 #[.agg #[v]] w (KoPost l r w) := by
  by_cases hn : 1 ≤ l.length ∧ l.length ≤ 30
  · rcases h.open with ⟨a1, c1, rfl, hrr⟩ | ⟨b1, o1, c0, rfl, hrr, C⟩
    · exfalso; have : l = [] := by simpa using hrr
      subst this; simp at hn
    clear h hrr
    obtain ⟨hn1, hn2⟩ := hn
    have h0 : 0 < l.length := by omega
    simp only [List.length_map]
    have hC := hd C
    obtain ⟨f0, f1, f2, f3, f4, f5⟩ := Cells.rowType l 0 h0 C
    rw [Nat.zero_mul, Nat.add_zero] at f4
    have q0 : ∀ o, (w.alloc o).cell? ⟨b1, o1 + 4, none⟩ = some (.int .i64 l[0].up) := fun o => keepCell (below_a1 w) f4
    have cw := hd (fun w => within_i (l.length : Int) 1 30 w true (by simp; omega))
    have hh0 : (0 : Int) < (l.length : Int) := by omega
    by_cases hu : l[0].up = -1
    · have hU : U l 0 = -1 := by rw [U_at h0, hu]
      obtain ⟨t, e, g1, g2⟩ := parse l.length 0 (by omega) h0 (fun i hi => by have : i = 0 := by omega
                                                                              subst this; rw [hU]; omega)
      have hiff := good_iff ⟨hn1, hn2⟩ hU g1 g2
      have hbd := enc_bd t _ _ g1
      have hec := enc_count t _ _ g1
      have hnm := names_ok hs g1
      have ck := hd (fun w' (hb : Below w.heap.size w w') => kindFrom_i l b1 o1 c0 (by omega) t 0 e w' g1 g2 (hC.out.mono hb))
      have hug : (l[0].up != -1) = false := by simpa using hu
      have hel : e ≤ l.length := hbd.2.1
      obtain ⟨rg, hrg⟩ := boolOf (goodK t)
      have cg := hd (fun v w lo hi hh h => good_i t v w lo hi hh (by omega) hnm h rg hrg)
      replace g1 := hd g1
      rw [hu] at q0
      clear f0 f1 f2 f3 f4 f5 hbd hec hnm C g2 hU hu hug
      replace hiff := hd hiff
      by_cases he : e = l.length
      · subst he
        have hz := hd (show r = rg by rw [Bool.eq_iff_iff, hr, hrg, ← hiff.out]; simp)
        replace hrg := hd hrg
        clear hr
        cases rg with
        | true =>
          go_enter Tryd.func14, Tryd.ntmps14
          go_wp2_with fail
          refine (cw.out _).mono ?_
          rintro e w' ⟨rfl, rfl⟩
          go_wp2_with fail
          have ck2 := ck.out _ (below_a1 w (a := .cells #[.slice (some ⟨b1, o1, none⟩) l.length c0] 30))
          refine ck2.mono ?_
          rintro e w2 ⟨vp, rfl, hrp, hb2⟩
          have q1 := keepCell hb2 (show World.cell? _ ⟨w.heap.size, 0, none⟩ = some (.slice (some ⟨b1, o1, none⟩) l.length c0) by go_simp)
          have hB := hd ((below_a1 w).next hb2)
          have cg2 := hd (cg.out _ w2 _ _ (Nat.le_refl _) hrp)
          obtain ⟨bp, _, _, _, rfl, _⟩ := hrp.open
          have hrp := hd hrp
          clear hb2 ck2
          go_wp2_with fail
          refine cg2.out.mono ?_
          rintro e w3 ⟨rfl, hb3⟩
          have hB3 := hd (hB.out.next hb3)
          have hrp3 := hd (RepP.same (Same.below hb3 (Nat.le_refl _)) (by simp) hb3.size t _ hrp.out : RepP w3 w.heap.size w3.heap.size t _)
          clear hb3
          go_wp2_with fail
          go_ret
          show KoPost _ _ _ _ _
          rw [hz.out]
          exact ⟨t, _, rfl, ⟨g1.out, hrg.out.1 trivial⟩, hrp3.out, hB3.out⟩
        | false =>
          go_enter Tryd.func14, Tryd.ntmps14
          go_wp2_with fail
          refine (cw.out _).mono ?_
          rintro e w' ⟨rfl, rfl⟩
          go_wp2_with fail
          have ck2 := ck.out _ (below_a1 w (a := .cells #[.slice (some ⟨b1, o1, none⟩) l.length c0] 30))
          refine ck2.mono ?_
          rintro e w2 ⟨vp, rfl, hrp, hb2⟩
          have q1 := keepCell hb2 (show World.cell? _ ⟨w.heap.size, 0, none⟩ = some (.slice (some ⟨b1, o1, none⟩) l.length c0) by go_simp)
          have hB := hd ((below_a1 w).next hb2)
          have cg2 := hd (cg.out _ w2 _ _ (Nat.le_refl _) hrp)
          obtain ⟨bp, _, _, _, rfl, _⟩ := hrp.open
          clear hb2 ck2 hrp
          go_wp2_with fail
          refine cg2.out.mono ?_
          rintro e w3 ⟨rfl, hb3⟩
          have hB3 := hd (hB.out.next hb3)
          clear hb3
          go_wp2_with fail
          go_ret
          show KoPost _ _ _ _ _
          rw [hz.out]
          exact ⟨rfl, hB3.out⟩
      · have hz := hd (show r = false by
          rw [← Bool.not_eq_true, hr, ← hiff.out]; rintro ⟨g, _⟩; exact he g)
        have heI : ((e : Int) != (l.length : Int)) = true := by simp; omega
        clear hr
        go_enter Tryd.func14, Tryd.ntmps14
        go_wp2_with fail
        refine (cw.out _).mono ?_
        rintro e w' ⟨rfl, rfl⟩
        go_wp2_with fail
        have ck2 := ck.out _ (below_a1 w (a := .cells #[.slice (some ⟨b1, o1, none⟩) l.length c0] 30))
        refine ck2.mono ?_
        rintro e w2 ⟨vp, rfl, hrp, hb2⟩
        have q1 := keepCell hb2 (show World.cell? _ ⟨w.heap.size, 0, none⟩ = some (.slice (some ⟨b1, o1, none⟩) l.length c0) by go_simp)
        have hB := hd ((below_a1 w).next hb2)
        obtain ⟨bp, _, _, _, rfl, _⟩ := hrp.open
        clear hb2 ck2 hrp
        go_wp2_with fail
        go_ret
        show KoPost _ _ _ _ _
        rw [hz.out]
        exact ⟨rfl, hB.out⟩
    · have hz := hd (show r = false by
        rw [← Bool.not_eq_true, hr]; rintro ⟨hf, _⟩
        obtain ⟨_, _, h, _⟩ := hf.2.1
        exact hu h)
      have hug : (l[0].up != -1) = true := by simpa using hu
      clear hr f0 f1 f2 f3 f5 hu C
      go_enter Tryd.func14, Tryd.ntmps14
      go_wp2_with fail
      refine (cw.out _).mono ?_
      rintro e w' ⟨rfl, rfl⟩
      go_wp2_with fail
      go_ret
      show KoPost _ _ _ _ _
      rw [hz.out]
      exact ⟨rfl, below_a1 _⟩
  · have hz := hd (show r = false by
      rw [← Bool.not_eq_true, hr]; rintro ⟨hf, _⟩
      exact hn hf.1)
    have cw := hd (fun w => within_i (l.length : Int) 1 30 w false (by simp; omega))
    obtain ⟨a1, c1, rfl, _⟩ := h
    simp only [List.length_map]
    clear hr
    go_enter Tryd.func14, Tryd.ntmps14
    go_wp2_with fail
    refine (cw.out _).mono ?_
    rintro e w' ⟨rfl, rfl⟩
    go_wp2_with fail
    go_ret
    show KoPost _ _ _ _ _
    rw [hz.out]
    exact ⟨rfl, below_a1 _⟩
end Go.Proofs.YtcepnifcfkgaeaaDoor
