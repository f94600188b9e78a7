/- DropsOf of both sides. -/
import Derived.Test.YtobahkjbadamhaaIsV
import Derived.Test.YtobahkjbadamhaaReads
namespace Go.Proofs.Ytobahkjbadamhaa
open Go.RowKit
set_option linter.unusedVariables false
set_option maxRecDepth 100000
def hasP (ps : List K) (no : Int) : Bool := (ps.find? (byNo no)).isSome
theorem has_first {ps : List K} {no : Int} {j : Nat} (h : firstP ps no j) : hasP ps no = true := by
  rw [hasP, List.find?_isSome]
  exact ⟨ps[j]'h.1, List.getElem_mem _, by rw [byNo]; simpa using h.2.1⟩
theorem has_none {ps : List K} {no : Int} (h : noneP ps no) : hasP ps no = false := by
  rw [hasP, ← Bool.not_eq_true, List.find?_isSome]
  rintro ⟨x, hx, hb⟩
  obtain ⟨i, hi, rfl⟩ := List.getElem_of_mem hx
  exact h i hi (by simpa [byNo] using hb)
/-- The numbers of fields that no part has. -/
def dropsL (ps : List K) (fs : List DField) : List Int := (fs.filter (fun f => !hasP ps f.no)).map (·.no)
theorem drops_add {ps : List K} {fs : List DField} {j : Nat} (hj : j < fs.length) (h : hasP ps fs[j].no = false) : dropsL ps (fs.take (j + 1)) = dropsL ps (fs.take j) ++ [fs[j].no] := by
  rw [List.take_succ_eq_append_getElem hj, dropsL, List.filter_append, List.map_append]
  simp [dropsL, h]
theorem drops_skip {ps : List K} {fs : List DField} {j : Nat} (hj : j < fs.length) (h : hasP ps fs[j].no = true) : dropsL ps (fs.take (j + 1)) = dropsL ps (fs.take j) := by
  rw [List.take_succ_eq_append_getElem hj, dropsL, List.filter_append, List.map_append]
  simp [dropsL, h]
theorem drops_len (ps : List K) (fs : List DField) : (dropsL ps fs).length ≤ fs.length := by
  rw [dropsL, List.length_map]; exact List.length_filter_le _ _
/-- What DropsOf answers. -/
def dropsP (l : List DType) (b : ByteArray) (s : Bool) (r : List Int) : Prop := ∀ q, decQ l b q → s = q.isSome ∧ (q.isSome = false → r = []) ∧ ∀ t, treeOf l t → goodP l → q.isSome = true → r = dropsL t.parts (rfF b.data.toList)
theorem decQ_same {l : List DType} {b : ByteArray} {q q' : Option (List DNode)} (h : decQ l b q) (h' : decQ l b q') : q = q' := by
  by_cases hg : goodP l
  · obtain ⟨t, ht⟩ := good_tree hg
    rw [h.2 t ht hg, h'.2 t ht hg]
  · rw [h.1 hg, h'.1 hg]
theorem dropsP_ex (l : List DType) (b : ByteArray) : ∃ s r, dropsP l b s r ∧ r.length ≤ 40 := by
  obtain ⟨q, hq⟩ := decQ_ex l b
  cases hv : q.isSome with
  | false => exact ⟨false, [], fun q' hq' => by rw [decQ_same hq' hq, hv]; exact ⟨rfl, fun _ => rfl, fun t _ _ e => by cases e⟩, by simp⟩
  | true =>
    have hgp : goodP l := Classical.byContradiction fun hg => by rw [hq.1 hg] at hv; cases hv
    obtain ⟨t, ht⟩ := good_tree hgp
    refine ⟨true, dropsL t.parts (rfF b.data.toList), fun q' hq' => ?_, Nat.le_trans (drops_len _ _) (rfF_len _)⟩
    rw [decQ_same hq' hq, hv]
    exact ⟨rfl, fun e => (by cases e), fun t' ht' _ _ => by rw [treeOf_uniq ht' ht]⟩
theorem encI_flat (zs : List Int) : (zs.map encI).flatten = zs.map (Value.int .i64) := by
  induction zs with
  | nil => rfl
  | cons x zs ih => rw [List.map_cons, List.flatten_cons, ih]; rfl
theorem encI_one (l : List Int) : ∀ u ∈ (l.map encI).flatten, u.oneCell' = true := by
  intro u hu
  rw [encI_flat] at hu
  obtain ⟨x, _, rfl⟩ := List.mem_map.1 hu
  rfl
/-- Whether the program's type has a part with a number: a pointer, or nil. -/
def PtPost (h : Bool) (w : World) (e : Ending) (w' : World) : Prop := ∃ p : Option Addr, e = .returned (.pointer p) ∧ p.isSome = h ∧ Below w.heap.size w w'
theorem part_has (t : K) (no : Int) (vt : Value) (w : World) (lo hi : Nat) (hh : hi ≤ w.heap.size) (hlen : t.parts.length ≤ 1000000) (hR : RepP w lo hi t vt) :
    Calls Try.prog 82 #[vt, .int .i64 no] w (PtPost (hasP t.parts no) w) := by
  obtain ⟨bp, aP, cP, vsP, rfl, hb, c0, c1, c2, c3, c4, c5, hS, hl, hg⟩ := hR.open
  refine (part_i t no bp cP aP vsP w lo hi hh hlen c5 hS hl hg).mono ?_
  rintro e w' ⟨h1, h2, hb2⟩
  rcases first_or t.parts no with ⟨j, hf⟩ | hn
  · obtain ⟨hj, rfl⟩ := h1 j hf
    obtain ⟨b2, _, _, _, e2, _⟩ := (hg j hf.1 hj).open
    exact ⟨some ⟨b2, 0, none⟩, by rw [e2], by rw [has_first hf]; rfl, hb2⟩
  · exact ⟨none, h2 hn, by rw [has_none hn]; rfl, hb2⟩
/-- Whether the reference's type has one. -/
def HasPost (h : Bool) (w : World) (e : Ending) (w' : World) : Prop := ∃ (v0 : Int) (v1 : ByteArray) (v2 : Int) (v3 : Bool) (v4 : Int) (a5 : Option Addr) (n5 c5 : Nat), e = .returned (.tuple #[.agg #[.int .i64 v0, .string v1, .int .i64 v2, .bool v3, .int .i64 v4, .slice a5 n5 c5], .bool h]) ∧ Below w.heap.size w w'
theorem by_has (t : K) (no : Int) (r : List Value) (w : World) (lo hi : Nat) (hh : hi ≤ w.heap.size) (hlen : t.parts.length ≤ 1000000) (hR : RepT w lo hi t r) :
    Calls Try.prog 81 #[.agg r.toArray, .int .i64 no] w (HasPost (hasP t.parts no) w) := by
  obtain ⟨aT, cT, rwT, rfl, hS, hl, hg⟩ := hR.open
  refine (by_s t no aT cT rwT w lo hi hh hlen hS hl hg).mono ?_
  rintro e w' ⟨h1, h2, hb2⟩
  rcases first_or t.parts no with ⟨j, hf⟩ | hn
  · obtain ⟨hj, rfl⟩ := h1 j hf
    obtain ⟨a6, c6, rows6, hr6, _⟩ := (hg j hf.1 hj).open
    exact ⟨_, _, _, _, _, _, _, _, by rw [hr6, has_first hf], hb2⟩
  · exact ⟨_, _, _, _, _, _, _, _, by rw [h2 hn, has_none hn], hb2⟩
set_option maxHeartbeats 6400000 in
theorem DropsOf_i (b : ByteArray) (l : List DType) (v : Value) (w : World) (hl : l.length ≤ 1000000000) (hs : ∀ x ∈ l, x.name.size ≤ 1000000000000) (h : Sl w v 6 (l.map DType.enc)) (s : Bool) (r : List Int) (hr : dropsP l b s r) :
    Calls Try.prog 45 #[.string b, .agg #[v]] w (SlbPost 3 1 (r.map encI) s w) := by
  obtain ⟨g, hg⟩ := boolOf (goodP l)
  have ck := hd (fun w' (hbb : Below w.heap.size w w') => kindOf_i l v w' (by omega) hs (h.mono hbb) g hg)
  obtain ⟨a1, c1, rfl, _⟩ := h
  simp only [List.length_map] at ck ⊢
  obtain ⟨q, hq⟩ := decQ_ex l b
  obtain ⟨hs1, hr0, hr1⟩ := hr q hq
  have hbad := hd (fun hn : q.isSome = false => (show s = false ∧ r = [] from ⟨by rw [hs1, hn], hr0 hn⟩))
  replace hg := hd hg
  clear hr
  go_enter Try.func45, Try.ntmps45
  go_wp2_with fail
  refine (ck.out _ (below_a1 _)).mono ?_
  intro e w2 hp
  cases g with
  | false =>
    obtain ⟨rfl, hb2⟩ := KoPost_f hp
    have hno := hd (hbad.out (by rw [hq.1 (fun g => absurd (hg.out.2 g) (by simp))]; rfl))
    have hB := hd ((below_a1 w).next hb2)
    clear hp hb2 hq hs1 hr0 hr1
    go_wp2_with fail
    go_ret2
    exact ⟨_, none, by rw [hno.out.1]; rfl, by rw [hno.out.2]; exact OwnR.nil, hB.out⟩
  | true =>
    have hgp := hg.out.1 rfl
    obtain ⟨t, vp, rfl, ht, hrp, hb2⟩ := KoPost_t hp
    have hqt := hq.2 t ht hgp
    have hrt := hd (hr1 t ht hgp)
    have hsm := good_small ht.2
    have htl : t.parts.length ≤ 1000000 := by have h1 := len_count t.parts; have h2 := countK_eq t; omega
    have cd := hd (valid_i t ht.2 vp b w2 _ _ (Nat.le_refl _) hrp)
    rw [← hqt] at cd
    have hpt := hd (fun no w' (hbb : Below w2.heap.size w2 w') => part_has t no vp w' _ _ (Nat.le_trans (Nat.le_refl _) hbb.size) htl (hrp.below (Nat.le_refl _) hbb))
    obtain ⟨bp, _, _, _, rfl, hjk⟩ := hrp.open
    have hB := hd ((below_a1 w).next hb2)
    have hb400 := hd (fun hk : q.isSome = true => (show b.size ≤ 400 from Classical.byContradiction fun hn => by rw [hqt, validR, if_neg hn] at hk; cases hk))
    clear hp hb2 hrp ht hgp hjk hq hr0 hr1 hqt hsm
    generalize t.parts = ps at *
    go_wp2_with fail
    refine cd.out.mono ?_
    rintro e w3 ⟨a3, n3, c3, rfl, _, hb3⟩
    have hB3 := hd (hB.out.next hb3)
    replace hb3 := hd hb3
    generalize q.isSome = z at *
    cases z with
    | false =>
      have hno := hd (hbad.out rfl)
      clear hs1
      go_wp2_with fail
      go_ret2
      exact ⟨_, none, by rw [hno.out.1]; rfl, by rw [hno.out.2]; exact OwnR.nil, hB3.out⟩
    | true =>
      have hrr := hd (hrt.out rfl)
      have hrf := hd (fun w' => rising_i b w' (by have := hb400.out rfl; omega))
      replace hs1 := hd hs1
      have hLF := rfF_map b.data.toList
      have hLn := rfL_len b.data.toList
      generalize rfB b.data.toList = rb at *
      obtain ⟨L, hL⟩ : ∃ L, rfL b.data.toList = L := ⟨_, rfl⟩
      rw [hL] at hrf hLF hLn
      rw [hLF] at hrr
      clear hL hLF hbad hrt hb400
      go_wp2_with fail
      refine (hrf.out _).mono ?_
      rintro e w4 ⟨v4, rfl, ho4, hb4⟩
      have hB4 := hd (hB3.out.next hb4)
      have hb24 := hd (hb3.out.next hb4)
      have hT4 := hd ho4.sl
      obtain ⟨a4, k4, rfl, hrw⟩ := ho4.sl
      replace hrw := hd hrw
      clear ho4 hb4
      simp only [List.length_map] at *
      have ho5 := hd ((own_made w4 3 1))
      have hb45 := hd (below_a1 w4 (a := .cells #[] 3))
      obtain ⟨i0, hi, hz0, hz1, hz2⟩ := info_parts infoInt
      have Hi := hd hi; have Hz0 := hd hz0; have Hz1 := hd hz1; have Hz2 := hd hz2
      clear hi hz0 hz1 hz2
      go_upto_region 9 with (fail)
      generalize w4.alloc (.cells #[] 3) = W5 at *
      go_wp2_with fail
      go_loopw [11, 34] (fun o i wr => ∃ k : Nat, k ≤ L.length ∧ i = .int .i64 k ∧ Hd (Own wr w4.heap.size 3 1 o ((dropsL ps ((L.map (·.f)).take k)).map encI)) ∧ Hd (Below w4.heap.size w4 wr)) (fun _ i _ => L.length - (intOf i).toNat)
      case atStart => exact ⟨0, Nat.zero_le _, rfl, ho5.out, hb45.out⟩
      case round =>
        obtain ⟨k, hk, rfl, hown, hbl⟩ := hrel
        obtain ⟨wo, rfl⟩ : ∃ wo : World, wo = wr := ⟨_, rfl⟩
        by_cases hlt : k < L.length
        · have hltI : (k : Int) < (L.length : Int) := by omega
          obtain ⟨b1, o1, rfl, C1⟩ := rows_at hrw.out (k := k) (by rw [List.length_map]; omega)
          obtain ⟨f0, f1, f2, f3, f4⟩ := Cells.rowPlaced L k hlt (C1.mono hbl.out)
          have hkF : k < (L.map (·.f)).length := by rw [List.length_map]; exact hlt
          have hadd := hd (fun h => drops_add (ps := ps) hkF h)
          have hskip := hd (fun h => drops_skip (ps := ps) hkF h)
          have hpl := drops_len ps ((L.map (·.f)).take k)
          rw [List.length_take] at hpl
          have hpl2 : (dropsL ps ((L.map (·.f)).take k)).length ≤ 1000000 := by omega
          simp only [List.getElem_map] at hadd hskip
          clear hpl
          generalize L[k] = x at *
          have hb6 := hd (hbl.out.next (below_a1 wo (a := .cells #[.int .i64 x.f.no, .int .i64 x.f.kind, .int .i64 x.f.num, .string x.f.data, .int .i64 x.at_] 130)))
          have ho6 := hd (hown.out.below (below_a1 wo (a := .cells #[.int .i64 x.f.no, .int .i64 x.f.kind, .int .i64 x.f.num, .string x.f.data, .int .i64 x.at_] 130)))
          have hx6 := hd (show BoxN (wo.alloc (.cells #[.int .i64 x.f.no, .int .i64 x.f.kind, .int .i64 x.f.num, .string x.f.data, .int .i64 x.at_] 130)) wo.heap.size x.enc from BoxN.new wo x.enc _)
          go_upto_region 12 with (fail)
          have p0 := hx6.out.1 0 _ rfl
          generalize wo.alloc (.cells #[.int .i64 x.f.no, .int .i64 x.f.kind, .int .i64 x.f.num, .string x.f.data, .int .i64 x.at_] 130) = w6 at *
          clear f0 f1 f2 f3 f4
          have cp := hd (hpt.out x.f.no w6 (hb24.out.next hb6.out))
          go_wp2_with fail
          refine cp.out.mono ?_
          rintro e w7 ⟨pp, rfl, hpp, hb7⟩
          have hb67 := hd (hb6.out.next hb7)
          have ho7 := hd (ho6.out.below hb7)
          have p0' := keepCell hb7 p0
          have hsz7 := hb67.out.size
          clear hb7 p0
          cases hh : hasP ps x.f.no with
          | true =>
            rw [hh] at hpp
            obtain ⟨pa, rfl⟩ := Option.isSome_iff_exists.1 hpp
            have hst := hd (hskip.out hh)
            clear hpp hh hadd hskip
            go_wp2_with fail
            go_roundw
            case rel => exact ⟨k + 1, by omega, by go_num, by rw [hst.out]; exact ho7.out, hb67⟩
            case measure => simp [intOf]; omega
          | false =>
            rw [hh] at hpp
            have hpn : pp = none := by cases pp with | none => rfl | some _ => cases hpp
            subst hpn
            have hst := hd (hadd.out hh)
            clear hpp hh hadd hskip
            generalize dropsL ps ((L.map (·.f)).take k) = Q at *
            go_wp2_with (at_builtin; refine wpList_appOwn rfl (.tmp 44) (.tmp 48) 63 rfl w4.heap.size 3 i0 _ 1 8 Try.underlying63 Hi.out Hz0.out Hz1.out Hz2.out rfl (by decide) _ ((Q).map encI) [encI x.f.no] rfl (ho7.out.below (below_a1 _)) _ 1 1 rfl rfl (one_row rfl) (cells_new _ _ _) (encI_one [x.f.no]) (by simp only [List.length_map]; omega) (by decide) (by first | omega | exact Nat.le_refl _ | (simp; done) | (simp; omega)) ?_; intro v8 w8 ho8 hga hva; have hb8 := hd ((hb67.out.next (below_a1 _)).grown hga (by first | omega | exact Nat.le_refl _ | (simp; done) | (simp; omega)) (fun g hg => (ho7.out.lt g hg).1)); replace ho8 := hd (own_snoc ho8); clear hga hva)
            go_roundw
            case rel => exact ⟨k + 1, by omega, by go_num, by rw [hst.out]; exact ho8.out, hb8⟩
            case measure => simp [intOf]; omega
        · have hltI : ¬ (k : Int) < (L.length : Int) := by omega
          obtain rfl : k = L.length := by omega
          have hfin := hd (show (dropsL ps ((L.map (·.f)).take L.length)) = r by rw [hrr.out, ← List.length_map (f := fun x : DPlaced => x.f), List.take_length])
          rw [hfin.out] at hown
          have hsz4 := hB4.out.size
          go_wp2_with fail
          go_ret2
          exact ⟨_, _, by rw [hs1.out]; rfl, (hown.out.weaken hsz4).r, hB4.out.next hbl.out⟩
theorem end_alloc {w w1 : World} {o : Obj} (h : Below w.heap.size w w1) : Hd (Below w.heap.size w (w1.alloc o)) := hd (h.next (below_a1 _))
theorem end_sets {w w1 : World} {b : Nat} {v0 v1 v2 v3 v4 v5 : Value} (h : Below w.heap.size w w1) (hb : w.heap.size ≤ b) : Hd (Below w.heap.size w ((((((w1.setCell ⟨b, 0, none⟩ v0).setCell ⟨b, 1, none⟩ v1).setCell ⟨b, 2, none⟩ v2).setCell ⟨b, 3, none⟩ v3).setCell ⟨b, 4, none⟩ v4).setCell ⟨b, 5, none⟩ v5)) :=
  hd ((((((h.setCell (by exact hb) _).setCell (by exact hb) _).setCell (by exact hb) _).setCell (by exact hb) _).setCell (by exact hb) _).setCell (by exact hb) _)
set_option maxHeartbeats 6400000 in
theorem DropsOf_s (b : ByteArray) (l : List DType) (v : Value) (w : World) (hl : l.length ≤ 1000000000) (hs : ∀ x ∈ l, x.name.size ≤ 1000000000000) (h : Sl w v 6 (l.map DType.enc)) (s : Bool) (r : List Int) (hr : dropsP l b s r) :
    Calls Try.prog 44 #[.string b, .agg #[v]] w (SlbPost 3 1 (r.map encI) s w) := by
  obtain ⟨g, hg⟩ := boolOf (goodP l)
  obtain ⟨q, hq⟩ := decQ_ex l b
  have cv := hd (fun w' (hbb : Below w.heap.size w w') => IsValid_s b l v w' hl hs (h.mono hbb) g hg q hq)
  have r0 := hd (fun w' (hbb : Below w.heap.size w w') hq t ht => root_s l v w' hq t ht (h.mono hbb))
  obtain ⟨a1, c1, rfl, -⟩ := h
  simp only [List.length_map] at cv r0 ⊢
  obtain ⟨hs1, hr0, hr1⟩ := hr q hq
  have hbad := hd (fun hn : q.isSome = false => (show s = false ∧ r = [] from ⟨by rw [hs1, hn], hr0 hn⟩))
  clear hr
  cases hz : q.isSome with
  | false =>
    have hno := hd (hbad.out hz)
    rw [hz] at cv
    clear hq hs1 hr0 hr1 hbad hg r0
    generalize (g && decide (b.size ≤ 400)) = z at *
    go_enter Try.func44, Try.ntmps44
    go_wp2_with fail
    refine (cv.out _ (below_a1 _)).mono ?_
    rintro e w2 ⟨rfl, hb2⟩
    have hB := hd ((below_a1 w).next hb2)
    clear hb2
    go_wp2_with fail
    go_ret2
    exact ⟨_, none, by rw [hno.out.1]; rfl, by rw [hno.out.2]; exact OwnR.nil, hB.out⟩
  | true =>
    have hgp : goodP l := Classical.byContradiction fun hg => by rw [hq.1 hg] at hz; cases hz
    obtain ⟨t, ht⟩ := good_tree hgp
    have hqt := hq.2 t ht hgp
    have hb400 : b.size ≤ 400 := Classical.byContradiction fun hn => by rw [hqt, validR, if_neg hn] at hz; cases hz
    have hrr := hd (hr1 t ht hgp hz)
    have hsm := good_small ht.2
    have htl : t.parts.length ≤ 1000000 := by have h1 := len_count t.parts; have h2 := countK_eq t; omega
    have hgt : (g && decide (b.size ≤ 400)) = true := by rw [hg.2 hgp]; simpa using hb400
    rw [hz, hgt] at cv
    have rB := hd (fun w' (hbb : Below w.heap.size w w') => r0.out w' hbb hgp t ht)
    have cby := hd (fun no rT w' lo hi (hh : hi ≤ w'.heap.size) hR => by_has t no rT w' lo hi hh htl hR)
    have hrf := hd (fun w' => fields5_s b w' (by omega))
    have hLn := rfF_len b.data.toList
    rw [hz] at hs1
    clear hq hr0 hr1 hbad hg r0 hgp ht hqt hsm hgt hz hs hl
    replace hs1 := hd hs1
    generalize rfB b.data.toList = rb at *
    generalize rfF b.data.toList = F at *
    go_enter Try.func44, Try.ntmps44
    go_wp2_with fail
    refine (cv.out _ (below_a1 _)).mono ?_
    rintro e w2 ⟨rfl, hb2⟩
    have hB := hd ((below_a1 w).next hb2)
    have hz2 : w.heap.size < w2.heap.size := by have := hb2.size; simp at this; omega
    have q0 := hd (keepCell hb2 (show World.cell? _ ⟨w.heap.size, 0, none⟩ = some (.slice a1 l.length c1) by go_simp))
    clear hb2
    go_wp2_with fail
    refine (hrf.out _).mono ?_
    rintro e w4 ⟨v4, rfl, ho4, hb4⟩
    have hB4 := hd (hB.out.next hb4)
    have q4 := hd (keepCell hb4 q0.out)
    obtain ⟨a4, k4, rfl, hrw⟩ := ho4.sl
    replace hrw := hd hrw
    have hz4 : w.heap.size < w4.heap.size := by have := hb4.size; omega
    clear ho4 hb4
    simp only [List.length_map] at *
    obtain ⟨i0, hi, hz0, hz1, hz2⟩ := info_parts infoInt
    have Hi := hd hi; have Hz0 := hd hz0; have Hz1 := hd hz1; have Hz2 := hd hz2
    clear hi hz0 hz1 hz2
    go_wp2_with fail
    go_loopw [10, 34] (fun o i wr => ∃ k : Nat, k ≤ F.length ∧ i = .int .i64 k ∧ Hd (Own wr w4.heap.size 3 1 o ((dropsL t.parts (F.take k)).map encI)) ∧ Hd (Below w4.heap.size w4 wr)) (fun _ i _ => F.length - (intOf i).toNat)
    case atStart => exact ⟨0, Nat.zero_le _, rfl, Own.nil, Below.refl _ _⟩
    case round =>
      obtain ⟨k, hk, rfl, hown, hbl⟩ := hrel
      obtain ⟨wo, rfl⟩ : ∃ wo : World, wo = wr := ⟨_, rfl⟩
      by_cases hlt : k < F.length
      · have hltI : (k : Int) < (F.length : Int) := by omega
        obtain ⟨b1, o1, rfl, C1⟩ := rows_at hrw.out (k := k) (by rw [List.length_map]; omega)
        obtain ⟨f0, f1, f2, f3⟩ := Cells.rowField F k hlt (C1.mono hbl.out)
        have hadd := hd (fun h => drops_add (ps := t.parts) hlt h)
        have hskip := hd (fun h => drops_skip (ps := t.parts) hlt h)
        have hpl := drops_len t.parts (F.take k)
        rw [List.length_take] at hpl
        have hpl2 : (dropsL t.parts (F.take k)).length ≤ 1000000 := by omega
        clear hpl
        generalize F[k] = x at *
        have hb6 := hd (hbl.out.next (below_a1 wo (a := .cells #[.int .i64 x.no, .int .i64 x.kind, .int .i64 x.num, .string x.data] 125)))
        have ho6 := hd (hown.out.below (below_a1 wo (a := .cells #[.int .i64 x.no, .int .i64 x.kind, .int .i64 x.num, .string x.data] 125)))
        have hx6 := hd (show BoxN (wo.alloc (.cells #[.int .i64 x.no, .int .i64 x.kind, .int .i64 x.num, .string x.data] 125)) wo.heap.size x.enc from BoxN.new wo x.enc _)
        go_upto_region 9 with (fail)
        have p0 := hx6.out.1 0 _ rfl
        generalize wo.alloc (.cells #[.int .i64 x.no, .int .i64 x.kind, .int .i64 x.num, .string x.data] 125) = w6 at *
        clear f0 f1 f2 f3
        have q6 := keepCell hb6.out q4.out
        have hBw := hd (hB4.out.next hb6.out)
        have hlt6 : wo.heap.size < w6.heap.size := hx6.out.2.2
        obtain ⟨hs6, hhs⟩ : ∃ z, hasP t.parts x.no = z := ⟨_, rfl⟩
        have cbx := hd (fun rT w' lo hi (hh : hi ≤ w'.heap.size) hR => cby.out x.no rT w' lo hi hh hR)
        rw [hhs] at cbx
        replace hhs := hd hhs
        go_cut [13, 14] from 38 to 45 (fun p c wy => c = .bool hs6 ∧ Hd (Below w6.heap.size w6 wy))
        case first =>
          clear hadd hskip hx6 ho6 hown hbl hpl2 hk hlt hltI htl hb400 hLn hz2 hz4 C1 hrw hB hB4 hb6 q0 q4 cby hrf cv hrr hhs Hi Hz0 Hz1 Hz2 hs1
          have p0a := keepCell (below_a1 w6 (a := (.cells #[.int .i64 0, .string ⟨#[]⟩, .int .i64 0, .bool false, .int .i64 0, .slice none 0 0] 74))) p0
          have q6a := keepCell (below_a1 w6 (a := (.cells #[.int .i64 0, .string ⟨#[]⟩, .int .i64 0, .bool false, .int .i64 0, .slice none 0 0] 74))) q6
          have hmkB := hd (fun (w' : World) (hbx : Below w6.heap.size w6 w') => rB.out w' (hBw.out.next hbx))
          go_region_law (first
            | (go_simp; go_at_call 51; (first
                | (refine (hmkB.out _ (by first | exact Below.refl _ _ | exact (Below.refl _ _).drew)).mono ?_; rintro e' wB ⟨rt, rfl, hRT, hbB0⟩; have hbB := hd (show Below w6.heap.size w6 wB from by first | exact hbB0 | exact (Below.refl _ w6).drew.next hbB0))
                | (refine (hmkB.out _ (by first | exact below_a1 _ | exact (below_a1 _).drew | exact (Below.refl _ _).drew.next (below_a1 _))).mono ?_; rintro e' wB ⟨rt, rfl, hRT, hbB0⟩; have hbB := hd (show Below w6.heap.size w6 wB from by first | exact (below_a1 _).next hbB0 | exact (below_a1 _).drew.next hbB0 | exact (Below.refl _ _).drew.next ((below_a1 _).next hbB0)); have hXb := hd (show BoxN wB w6.heap.size [.int .i64 0, .string ⟨#[]⟩, .int .i64 0, .bool false, .int .i64 0, .slice none 0 0] from by first | exact (BoxN.new _ _ _).below hbB0 | exact ((BoxN.new _ _ _).below (Below.refl _ _).drew).below hbB0))); have cbT := hd (fun w' (hbx : Below wB.heap.size wB w') => cbx.out rt w' _ _ (Nat.le_trans (Nat.le_refl _) hbx.size) (hRT.below (Nat.le_refl _) hbx)); obtain ⟨aT, cT, rwT, rfl, hjk⟩ := hRT.open; clear hjk hRT; have p0B := keepCell hbB.out p0; have p0Ba := keepCell (below_a1 wB (a := (.cells #[.int .i64 0, .string ⟨#[]⟩, .int .i64 0, .bool false, .int .i64 0, .slice none 0 0] 74))) p0B; clear hbB0)
            | (go_simp; go_at_call 81; (first
                | (refine (cbT.out _ (by first | exact Below.refl _ _ | exact (Below.refl _ _).drew)).mono ?_; rintro e' wC ⟨v0, v1, v2, v3, v4, a5, n5, c5, rfl, hbC0⟩; have hbC := hd (show Below wB.heap.size wB wC from by first | exact hbC0 | exact (Below.refl _ wB).drew.next hbC0); (try have hXc := hXb.out.below hbC.out))
                | (refine (cbT.out _ (by first | exact below_a1 _ | exact (below_a1 _).drew | exact (Below.refl _ _).drew.next (below_a1 _))).mono ?_; rintro e' wC ⟨v0, v1, v2, v3, v4, a5, n5, c5, rfl, hbC0⟩; have hbC := hd (show Below wB.heap.size wB wC from by first | exact (below_a1 _).next hbC0 | exact (below_a1 _).drew.next hbC0 | exact (Below.refl _ _).drew.next ((below_a1 _).next hbC0)); have hXc := (show BoxN wC wB.heap.size [.int .i64 0, .string ⟨#[]⟩, .int .i64 0, .bool false, .int .i64 0, .slice none 0 0] from by first | exact (BoxN.new _ _ _).below hbC0 | exact ((BoxN.new _ _ _).below (Below.refl _ _).drew).below hbC0))); clear hbC0; (try (have y0 := hXc.1 0 _ rfl; have y1 := hXc.1 1 _ rfl; have y2 := hXc.1 2 _ rfl; have y3 := hXc.1 3 _ rfl; have y4 := hXc.1 4 _ rfl; have y5 := hXc.1 5 _ rfl; have z0 := hXc.2.1 0; have z1 := hXc.2.1 1; have z2 := hXc.2.1 2; have z3 := hXc.2.1 3; have z4 := hXc.2.1 4; have z5 := hXc.2.1 5; clear hXc))))
          all_goals
            have hbD := hd (hbB.out.next hbC.out)
            have hszB := hd hbB.out.size
            clear hbB hbC p0B p0Ba p0 p0a q6 q6a hlt6 hBw rB cbx hmkB cbT
            (try clear hXb)
            (try clear y0 y1 y2 y3 y4 y5 z0 z1 z2 z3 z4 z5)
          all_goals
            go_wp2_with fail
            go_meet
            refine ⟨rfl, ?_⟩
            first
              | with_reducible exact end_alloc hbD.out
              | with_reducible exact end_sets hbD.out hszB.out
              | with_reducible exact end_sets hbD.out (Nat.le_refl _)
        case rest =>
          obtain ⟨rfl, hb7⟩ := hcut
          obtain ⟨w7, hw7⟩ : ∃ w7, w7 = wc := ⟨_, rfl⟩
          subst hw7
          have hb67 := hd (hb6.out.next hb7.out)
          have ho7 := hd (ho6.out.below hb7.out)
          have p0' := keepCell hb7.out p0
          have hsz7 := hb67.out.size
          clear p0 q6
          cases hs6 with
          | true =>
            have hst := hd (hskip.out hhs.out)
            clear hadd hskip
            go_wp2_with fail
            go_roundw
            case rel => exact ⟨k + 1, by omega, by go_num, by rw [hst.out]; exact ho7.out, hb67⟩
            case measure => simp [intOf]; omega
          | false =>
            have hst := hd (hadd.out hhs.out)
            clear hadd hskip
            generalize dropsL t.parts (F.take k) = Q at *
            go_wp2_with (at_builtin; refine wpList_appOwn rfl (.tmp 48) (.tmp 51) 63 rfl w4.heap.size 3 i0 _ 1 8 Try.underlying63 Hi.out Hz0.out Hz1.out Hz2.out rfl (by decide) _ ((Q).map encI) [encI x.no] rfl (ho7.out.below (below_a1 _)) _ 1 1 rfl rfl (one_row rfl) (cells_new _ _ _) (encI_one [x.no]) (by simp only [List.length_map]; omega) (by decide) (by first | omega | exact Nat.le_refl _ | (simp; done) | (simp; omega)) ?_; intro v8 w8 ho8 hga hva; have hb8 := hd ((hb67.out.next (below_a1 _)).grown hga (by first | omega | exact Nat.le_refl _ | (simp; done) | (simp; omega)) (fun g hg => (ho7.out.lt g hg).1)); replace ho8 := hd (own_snoc ho8); clear hga hva)
            go_roundw
            case rel => exact ⟨k + 1, by omega, by go_num, by rw [hst.out]; exact ho8.out, hb8⟩
            case measure => simp [intOf]; omega
      · have hltI : ¬ (k : Int) < (F.length : Int) := by omega
        obtain rfl : k = F.length := by omega
        rw [List.take_length, ← hrr.out] at hown
        have hsz4 := hB4.out.size
        go_wp2_with fail
        go_ret2
        exact ⟨_, _, by rw [hs1.out]; rfl, (hown.out.weaken hsz4).r, hB4.out.next hbl.out⟩
end Go.Proofs.Ytobahkjbadamhaa
