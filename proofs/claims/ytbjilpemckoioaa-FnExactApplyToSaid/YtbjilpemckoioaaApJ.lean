/- ApplyTo of the program. -/
import Derived.Test.YtbjilpemckoioaaApT
namespace Go.Proofs.Ytbjilpemckoioaa
open Go.RowKit
set_option linter.unusedVariables false
set_option maxRecDepth 100000
/-- A slice of terms. -/
def SlT (w : World) (v : Value) (ls : List (List DCell)) : Prop :=
  ∃ us : List Value, us.length = ls.length ∧ Sl w v 1 (us.map encV) ∧ ∀ j (h : j < ls.length) (h' : j < us.length), ∃ a c, us[j] = .slice a ls[j].length c ∧ ls[j].length ≤ c ∧ Sl w us[j] 3 (ls[j].map DCell.enc)
theorem SlT.mono {w w' : World} {v : Value} {ls : List (List DCell)} (h : SlT w v ls) (hb : Below w.heap.size w w') : SlT w' v ls := by
  obtain ⟨us, h1, h2, h3⟩ := h
  refine ⟨us, h1, h2.mono hb, fun j hj hj' => ?_⟩
  obtain ⟨a, c, e, hc, hs⟩ := h3 j hj hj'
  exact ⟨a, c, e, hc, hs.mono hb⟩
def nilP : List Value := [.pointer none, .pointer none, .pointer none, .pointer none, .pointer none, .pointer none]
theorem mkPtrs (w : World) : (Instr.makeSlice 107 (.int .i64 6) (.int .i64 6)).run Try.prog w = .ok (.slice (some ⟨w.heap.size, 0, none⟩) 6 6) (w.alloc (.cells nilP.toArray 95)) := by
  obtain ⟨i0, hi, hz0, hz1, hz2⟩ := info_parts infoTree
  have h := run_makeSlice w 107 95 i0 _ Try.underlying107 hi hz0 .i64 .i64 6 6 (by decide) (by decide) (by rw [hz1]; decide) (by rw [hz2]; decide) (by decide)
  rw [h, hz1]
  have e : madeCells (Value.pointer none).cells ((6 : Int).toNat * 1) = nilP.toArray := by kernel_rfl
  rw [e]
  rfl
/-- The row of pointers that ApplyTo fills: the first k point to these terms. -/
def PtRow (w : World) (g k : Nat) (ts : List K) (vs : List Value) : Prop :=
  vs.length = 6 ∧ BoxN w g vs ∧ ts.length = k ∧ ∀ j (h : j < ts.length) (h' : j < vs.length), RepY HT w (fun q => q < w.heap.size ∧ q ≠ g) ts[j] vs[j]
theorem PtRow.below {w w' : World} {g k : Nat} {ts : List K} {vs : List Value} (h : PtRow w g k ts vs) (hb : Below w.heap.size w w') : PtRow w' g k ts vs :=
  ⟨h.1, h.2.1.below hb, h.2.2.1, fun j hj hj' => RepY.same (SameS.below hb (fun q h => h.1)) (fun q h => ⟨Nat.lt_of_lt_of_le h.1 hb.size, h.2⟩) _ _ (h.2.2.2 j hj hj')⟩
theorem PtRow.put {w : World} {g k : Nat} {ts : List K} {vs : List Value} (h : PtRow w g k ts vs) (hk : k < 6) {t : K} {b : Nat} (ht : RepY HT w (fun q => q < w.heap.size ∧ q ≠ g) t (.pointer (some ⟨b, 0, none⟩))) :
    PtRow (w.setCell ⟨g, k, none⟩ (.pointer (some ⟨b, 0, none⟩))) g (k + 1) (ts ++ [t]) (vs.set k (.pointer (some ⟨b, 0, none⟩))) := by
  obtain ⟨h1, h2, h3, h4⟩ := h
  have hg := grownBy_setCell w ⟨g, k, none⟩ (.pointer (some ⟨b, 0, none⟩))
  have hs : SameS w (w.setCell ⟨g, k, none⟩ (.pointer (some ⟨b, 0, none⟩))) (fun q => q < w.heap.size ∧ q ≠ g) := SameS.grown hg (fun q h => h.1) (fun q h e => h.2 (Option.some.inj e))
  have hS : ∀ q, (q < w.heap.size ∧ q ≠ g) → (q < (w.setCell ⟨g, k, none⟩ (.pointer (some ⟨b, 0, none⟩))).heap.size ∧ q ≠ g) := fun q h => ⟨Nat.lt_of_lt_of_le h.1 hg.size, h.2⟩
  refine ⟨by simp [h1], h2.set (by omega) _, by simp [h3], fun j hj hj' => ?_⟩
  rw [List.length_append, List.length_singleton] at hj
  by_cases hjk : j < ts.length
  · have e1 : (ts ++ [t])[j] = ts[j] := List.getElem_append_left hjk
    have e2 : (vs.set k (.pointer (some ⟨b, 0, none⟩)))[j] = vs[j]'(by omega) := List.getElem_set_ne (by omega) _
    rw [e1, e2]
    exact RepY.same hs hS _ _ (h4 j hjk (by omega))
  · obtain rfl : j = ts.length := by omega
    have e1 : (ts ++ [t])[ts.length] = t := by simp
    have e2 : (vs.set k (.pointer (some ⟨b, 0, none⟩)))[ts.length] = .pointer (some ⟨b, 0, none⟩) := by simp [h3]
    rw [e1, e2]
    exact RepY.same hs hS _ _ ht
set_option maxHeartbeats 12800000 in
theorem ApplyTo_i (l : List DCell) (ls : List (List DCell)) (v0 v1 : Value) (w : World) (hl : l.length ≤ 1000000000) (hls : ls.length ≤ 1000000000) (hll : ∀ x ∈ ls, x.length ≤ 1000000000) (hs : ∀ x ∈ l, x.name.size ≤ 1000000000000) (hss : ∀ x ∈ ls, ∀ y ∈ x, y.name.size ≤ 1000000000000) (hp0 : ∀ a n c, v0 = .slice a n c → n ≤ c)
    (h0 : Sl w v0 3 (l.map DCell.enc)) (h1 : SlT w v1 ls) (r : List DCell) (b : Bool) (hr : apR l ls = if b = true then some r else none) (hr0 : b = false → r = []) :
    Calls Try.prog 20 #[.agg #[v0], v1] w (AggbPost 163 3 (r.map DCell.enc) b w) := by
  have h00 := h0
  obtain ⟨a0, c0, rfl, -⟩ := h0
  simp only [List.length_map] at h00 hp0 ⊢
  have hc0 := hp0 _ _ _ rfl
  have k0 := hd (fun w' (hbb : Below w.heap.size w w') => treeOf_i l a0 c0 w' hl hc0 hs (h00.mono hbb))
  obtain ⟨us, hul, hus, huj⟩ := h1
  have husO := hus.open
  obtain ⟨aL, cL, rfl, -⟩ := hus
  simp only [List.length_map, hul] at husO ⊢
  clear hs hp0 h00
  replace hr := hd hr
  replace hr0 := hd hr0
  replace huj := hd huj
  replace hll := hd hll
  replace hss := hd hss
  have hfalse := hd (fun (e : apR l ls = none) => (show r = [] ∧ b = false from by
    have h := hr.out
    cases b with
    | false => exact ⟨hr0.out rfl, rfl⟩
    | true => rw [e] at h; cases h))
  have hx1 := hd (fun w' (hb : Below ((w.alloc (.cells #[.slice a0 l.length c0] 29)).alloc (.cells #[.slice none 0 0] 29)).heap.size ((w.alloc (.cells #[.slice a0 l.length c0] 29)).alloc (.cells #[.slice none 0 0] 29)) w') => (Box1.below (b := w.heap.size + 1) (v := .slice none 0 0) ⟨by go_simp, by go_simp⟩ hb : Box1 w' _ _))
  have hB := hd (below_a2 w (a := .cells #[.slice a0 l.length c0] 29) (b := .cells #[.slice none 0 0] 29))
  go_enter Try.func20, Try.ntmps20
  go_wp2_with fail
  refine (k0.out _ hB.out).mono ?_
  intro e w2 hp
  cases hT : termT l with
  | none =>
    rw [hT] at hp
    obtain ⟨rfl, hb2⟩ := ToPost_n hp
    obtain ⟨rfl, rfl⟩ := hfalse.out (apR_n0 hT)
    have hx2 := hx1.out _ hb2
    have Q1 := hx2.1; have Q2 := hx2.2
    have hB2 := hd (hB.out.next hb2)
    clear hp hb2 hx2
    go_wp2_with fail
    refine bodyPost_ret (v := .tuple #[.agg #[.slice none 0 0], .bool false]) (by simp [results, Try.results20, go_sem, Q1]) rfl ⟨_, none, rfl, OwnR.nil, ?_⟩
    exact hB2.out.setCell (by simp) _
  | some t =>
    rw [hT] at hp
    obtain ⟨bp, rfl, hRt, hb2⟩ := ToPost_s hp
    have hx2 := hd (hx1.out _ hb2)
    have hB2 := hd (hB.out.next hb2)
    have hz2 : w.heap.size + 2 ≤ w2.heap.size := by have := hb2.size; simp at this; omega
    have hRt := hd (RepY.same (SameS.refl _ _) (fun q h => (show q < w2.heap.size from h.2)) _ _ hRt)
    clear hp hb2 k0 hx1
    by_cases h6 : ls.length = 6
    · have h6r := hd h6
      rw [h6] at husO ⊢
      obtain ⟨b1, o1, c1, e1, C1⟩ : ∃ b1 o1 c1, Value.slice aL 6 cL = .slice (some ⟨b1, o1, none⟩) 6 c1 ∧ Cells w b1 o1 1 (us.map encV) := by
        rcases husO with ⟨a1, c1, e, hr⟩ | ⟨b1, o1, c1, e, hr, C1⟩
        · exfalso; rw [List.map_eq_nil_iff] at hr; rw [hr] at hul; simp at hul; omega
        · exact ⟨b1, o1, c1, e, C1⟩
      cases e1
      clear husO
      have h6b : ((6 : Int) != 6) = false := by decide
      have hmk := mkPtrs
      have hR0 : PtRow ((w2.alloc (.cells nilP.toArray 95)).alloc (.cells #[.slice (some ⟨w2.heap.size, 0, none⟩) 6 6] 107)) w2.heap.size 0 [] nilP :=
        ⟨rfl, (BoxN.new w2 nilP 95).below (below_a1 _), rfl, fun j h => absurd h (by simp)⟩
      have hX0 : BoxN ((w2.alloc (.cells nilP.toArray 95)).alloc (.cells #[.slice (some ⟨w2.heap.size, 0, none⟩) 6 6] 107)) (w2.heap.size + 1) [.slice (some ⟨w2.heap.size, 0, none⟩) 6 6] := by
        have := BoxN.new (w2.alloc (.cells nilP.toArray 95)) [.slice (some ⟨w2.heap.size, 0, none⟩) 6 6] 107
        rwa [World.size_alloc] at this
      have hB3 := hd (below_a2 w2 (a := .cells nilP.toArray 95) (b := .cells #[.slice (some ⟨w2.heap.size, 0, none⟩) 6 6] 107))
      replace hR0 := hd hR0
      replace hX0 := hd hX0
      have hlts : ls.take 0 = [] := rfl
      generalize nilP.toArray = NP at *
      go_upto_region 5 with (fail)
      generalize (w2.alloc (.cells NP 95)).alloc (.cells #[.slice (some ⟨w2.heap.size, 0, none⟩) 6 6] 107) = W3 at *
      go_wp2_with fail
      go_loopw [25] (fun i wr => ∃ (k : Nat) (ts : List K) (vs : List Value), i = .int .i64 k ∧ k ≤ 6 ∧ Hd (termsT (ls.take k) = some ts) ∧ Hd (PtRow wr w2.heap.size k ts vs) ∧ Hd (BoxN wr (w2.heap.size + 1) [.slice (some ⟨w2.heap.size, 0, none⟩) 6 6]) ∧ Hd (Below w2.heap.size w2 wr)) (fun i _ => 6 - (intOf i).toNat)
      case atStart => exact ⟨0, [], nilP, rfl, by omega, rfl, hR0, hX0, hB3⟩
      case round =>
        obtain ⟨k, ts, vs, rfl, hk, hts, hR, hX, hbl⟩ := hrel
        obtain ⟨wo, rfl⟩ : ∃ wo : World, wo = wr := ⟨_, rfl⟩
        have hbw := hd (hB2.out.next hbl.out)
        by_cases hlt : k < 6
        · have hltI : (k : Int) < 6 := by omega
          have hkl : k < ls.length := by have := h6r.out; omega
          obtain ⟨ak, ck, eu, hck, hSk⟩ := huj.out k hkl (by omega)
          have q1 := keepCell hbw.out (show w.cell? ⟨b1, o1 + k, none⟩ = some (us[k]'(by omega)) from by
            have := C1.2 k (encV (us[k]'(by omega))) (by simp [show k < us.length by omega]) 0 _ rfl
            rwa [Nat.mul_one, Nat.add_zero] at this)
          have ct := hd (fun w' (hw : Below w.heap.size w w') => treeOf_i ls[k] ak ck w' (hll.out _ (List.getElem_mem hkl)) hck (hss.out _ (List.getElem_mem hkl)) (by rw [← eu]; exact hSk.mono hw))
          rw [eu] at q1
          have htk := termsT_take hkl
          rw [hts.out] at htk
          have hstop := hd (fun (e : termsT (ls.take (k + 1)) = none) => (show apR l ls = none from apR_n1 (by
            have := termsT_stop e (ls.length - (k + 1)) (by omega)
            rwa [show k + 1 + (ls.length - (k + 1)) = ls.length by omega, List.take_length] at this)))
          have hz5 := hbl.out.size
          have hg5 := hX.out.2.2
          have hX5 := hd (BoxN.new wo [.slice ak ls[k].length ck] 29)
          have hb5 := hd (below_a1 wo (a := .cells #[.slice ak ls[k].length ck] 29))
          change Hd (BoxN (wo.alloc (.cells #[.slice ak ls[k].length ck] 29)) _ _) at hX5
          clear eu hck hSk C1
          generalize ls[k] = lk at *
          go_upto_region 8 with (fail)
          generalize wo.alloc (.cells #[.slice ak lk.length ck] 29) = W5 at *
          have hR5 := hd (hR.out.below hb5.out)
          have hY5 := hd (hX.out.below hb5.out)
          have hbl5 := hd (hbl.out.next hb5.out)
          have hbw5 := hd (hbw.out.next hb5.out)
          clear q1
          have z0 := hX5.out.1 0 _ rfl
          have y0 := hY5.out.1 0 _ rfl
          cases hTk : termT lk with
          | none =>
            rw [hTk] at ct htk
            obtain ⟨rfl, rfl⟩ := hfalse.out (hstop.out htk)
            go_region_law ((go_simp; go_at_call 54; refine (ct.out _ (by first | exact hbw5.out | exact hbw5.out.drew)).mono ?_; intro e w6 hp; obtain ⟨rfl, hb6⟩ := ToPost_n hp; clear hp; have y6 := keepCell hb6 y0; have z6 := keepCell hb6 z0; have R6 := (hR5.out.below (Below.refl _ _).drew).below hb6; have q6 := R6.2.1.1 k _ (List.getElem?_eq_getElem (by have := R6.1; omega)); have r6 := R6.2.1.2.1 k))
            all_goals
              have hB6 := hd (hbw5.out.drew.next hb6)
              have hg8 : w6.grownBy (w6.setCell ⟨w2.heap.size, k, none⟩ (.pointer none)) (some w2.heap.size) := grownBy_setCell w6 ⟨w2.heap.size, k, none⟩ (.pointer none)
              have c8 := World.cell?_setCell_same w6 ⟨w2.heap.size, k, none⟩ (.pointer none) q6
              have y8 := hg8.cell y6 (fun e => by have := Option.some.inj e; change w2.heap.size + 1 = w2.heap.size at this; omega)
              have hb26 := hbl5.out.drew.next hb6
              have hX1 := (hx2.out.below hb26).grown hg8 (fun e => by have := Option.some.inj e; omega)
              have Q1 := hX1.1; have Q2 := hX1.2
              have hB8 := hd (hB6.out.grown hg8 hB6.out.size (fun j hj => by cases hj; omega))
              clear hX1 hb6 q6 r6 y6 z6 R6 hb26 hg8
              go_wp2_with fail
              refine bodyPost_ret (v := .tuple #[.agg #[.slice none 0 0], .bool false]) (by simp [results, Try.results20, go_sem, Q1]) rfl ⟨_, none, rfl, OwnR.nil, ?_⟩
              exact hB8.out.setCell (by simp) _
          | some tk =>
            rw [hTk] at ct htk
            replace htk := hd htk
            go_region_law ((go_simp; go_at_call 54; refine (ct.out _ (by first | exact hbw5.out | exact hbw5.out.drew)).mono ?_; intro e w6 hp; obtain ⟨bk, rfl, hRk, hb6⟩ := ToPost_s hp; clear hp; have y6 := keepCell hb6 y0; have z6 := keepCell hb6 z0; have R6 := (hR5.out.below (Below.refl _ _).drew).below hb6; have q6 := R6.2.1.1 k _ (List.getElem?_eq_getElem (by have := R6.1; omega)); have r6 := R6.2.1.2.1 k))
            all_goals
              have hg8 : w6.grownBy (w6.setCell ⟨w2.heap.size, k, none⟩ (.pointer (some ⟨bk, 0, none⟩))) (some w2.heap.size) := grownBy_setCell w6 ⟨w2.heap.size, k, none⟩ (.pointer (some ⟨bk, 0, none⟩))
              have c8 := World.cell?_setCell_same w6 ⟨w2.heap.size, k, none⟩ (.pointer (some ⟨bk, 0, none⟩)) q6
              have y8 := hg8.cell y6 (fun e => by have := Option.some.inj e; change w2.heap.size + 1 = w2.heap.size at this; omega)
              have hb26 := hbl5.out.drew.next hb6
              have hzb : W5.heap.size ≤ w6.heap.size := hb6.size
              have hz55 := hbl5.out.size
              have hg55 := hR5.out.2.1.2.2
              have hR8 := hd (PtRow.put R6 hlt (t := tk) (b := bk) (RepY.same (SameS.refl _ _) (fun q h => ⟨h.2, by have h1 : W5.heap.size ≤ q := h.1; omega⟩) _ _ hRk))
              have hX8 := hd (((hY5.out.below (Below.refl _ _).drew).below hb6).grown hg8 (fun e => by have := Option.some.inj e; omega))
              have hb8 := hd (hb26.grown hg8 hb26.size (fun j hj => by cases hj; exact Nat.le_refl _))
              clear q6 r6 y6 z6 R6 hb26 hg8 hRk hb6
              go_wp2_with fail
              go_roundw
              case rel => exact ⟨k + 1, ts ++ [tk], _, by go_num, by omega, htk.out, hR8, hX8, hb8⟩
              case measure => simp [intOf]; omega
        · obtain rfl : k = 6 := by omega
          have hltI : ¬ (6 : Int) < 6 := by omega
          have htl : ls.take 6 = ls := List.take_of_length_le (by rw [h6r.out]; exact Nat.le_refl _)
          rw [htl] at hts
          have hap := apR_s hT hts.out h6r.out
          have hgt := termT_goodA hT
          have htn := termsT_len hts.out
          have hR1 := hR.out.1
          have hR2 := hR.out.2.2.1
          have hcnt := apK_count (s := sub6 ts) (m := 30) (by omega) (fun o o1 o6 => by
            obtain ⟨i, rfl⟩ : ∃ i : Nat, o = (i : Int) + 1 := ⟨(o - 1).toNat, by omega⟩
            rw [sub6_at (by omega)]
            exact (termT_goodA (htn.2 i (by omega) (by omega))).1) hgt.2
          have ca := hd (apply_i (sub6 ts) (w2.heap.size + 1) w2.heap.size vs hR1 t (.pointer (some ⟨bp, 0, none⟩)) wo (fun q => q < wo.heap.size ∧ q ≠ w2.heap.size) (fun q h => h.1) (hX.out.1 0 _ rfl) (fun i h => hR.out.2.1.1 i _ (List.getElem?_eq_getElem h))
            (fun i h => by rw [sub6_at (by omega)]; exact hR.out.2.2.2 i (by omega) h) (by omega) hgt.2
            (RepY.same (SameS.belowB hbl.out (fun q h => h)) (fun q h => ⟨Nat.lt_of_lt_of_le h hbl.out.size, Nat.ne_of_lt h⟩) _ _ hRt.out))
          have hrr : (if countK (apK (sub6 ts) t) ≤ 30 then (flK (apK (sub6 ts) t), true) else ([], false)) = (r, b) := by
            have h := hr.out
            rw [hap] at h
            split
            · rename_i h30
              rw [if_pos h30] at h
              cases b with
              | true => simp at h; rw [h]
              | false => simp at h
            · rename_i h30
              rw [if_neg h30] at h
              cases b with
              | true => simp at h
              | false => rw [hr0.out rfl]
          have hcb : countK (apK (sub6 ts) t) ≤ 1000000 := by omega
          have cm := hd (fun v w' S hS hh => term_i (apK (sub6 ts) t) v w' S hS hcb hh r b hrr)
          have hxo := hd (hx2.out.below hbl.out)
          clear hap hgt htn hcnt hrr hcb hts hR hX
          generalize apK (sub6 ts) t = T9 at *
          go_wp2_with fail
          refine ca.out.mono ?_
          rintro e w9 ⟨b9, rfl, hR9, hb9⟩
          have cm9 := hd (cm.out _ w9 _ (fun q h => h.elim (fun h => Nat.lt_of_lt_of_le h.1 hb9.size) (fun h => h.2)) hR9)
          have hx9 := hd (hxo.out.below hb9)
          have hB9 := hd (hbw.out.next hb9)
          clear hR9 hb9
          go_wp2_with fail
          refine cm9.out.mono ?_
          rintro e w10 ⟨v3, rb, rfl, ho3, hb10⟩
          obtain ⟨a3, c3, rfl, hjk⟩ := ho3.sl
          clear hjk
          simp only [List.length_map] at ho3 ⊢
          have hx10 := hx9.out.below hb10
          have Q1 := hx10.1; have Q2 := hx10.2
          have hB10 := hd (hB9.out.next hb10)
          have hz9 := hB9.out.size
          have hz10 := hx9.out.lt
          replace ho3 := hd ho3
          clear hb10 hx10
          go_wp2_with fail
          exact bodyPost_ret (v := .tuple #[.agg #[.slice a3 r.length c3], .bool b]) (by simp [results, Try.results20, go_sem, Q1]) rfl (AggbPost.ofA (rb := rb) (ownR_storeA ho3.out (by omega) hz10) (hB10.out.setCell (by simp) _))
    · obtain ⟨rfl, rfl⟩ := hfalse.out (apR_n2 h6)
      have h6b : ((ls.length : Int) != 6) = true := by rw [bne_iff_ne]; omega
      have Q1 := hx2.out.1; have Q2 := hx2.out.2
      go_wp2_with fail
      refine bodyPost_ret (v := .tuple #[.agg #[.slice none 0 0], .bool false]) (by simp [results, Try.results20, go_sem, Q1]) rfl ⟨_, none, rfl, OwnR.nil, ?_⟩
      exact hB2.out.setCell (by simp) _
end Go.Proofs.Ytbjilpemckoioaa
