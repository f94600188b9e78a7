/- NosOf of both sides. -/
import Derived.Test.YtbjilpemckoioaaNosM
import Derived.Test.YtbjilpemckoioaaShelf
import Derived.Test.YtbjilpemckoioaaFilter2
import Derived.Test.YtbjilpemckoioaaFilterS
import Derived.Sort.OwnSortedInts
import Derived.Lib.OwnBridge
namespace Go.Proofs.Ytbjilpemckoioaa
open Go.RowKit
set_option linter.unusedVariables false
set_option maxRecDepth 100000
theorem encI_flat (zs : List Int) : (zs.map encI).flatten = zs.map (Value.int .i64) := by
  induction zs with
  | nil => rfl
  | cons x zs ih => rw [List.map_cons, List.flatten_cons, ih]; rfl
theorem encI_one (l : List Int) : ∀ u ∈ (l.map encI).flatten, u.oneCell' = true := by
  intro u hu
  rw [encI_flat] at hu
  obtain ⟨x, _, rfl⟩ := List.mem_map.1 hu
  rfl
theorem own_ints {w : World} {B E : Nat} {v : Value} {zs : List Int} (h : Own w B E 1 v (zs.map encI)) : w.ownsRow B E 1 v zs.length (zs.map (Value.int .i64)) := by
  have := own_flat h
  rw [encI_flat, List.length_map] at this
  exact this
theorem ints_own {w : World} {B E : Nat} {v : Value} {zs : List Int} (h : w.ownsRow B E 1 v zs.length (zs.map (Value.int .i64))) : Own w B E 1 v (zs.map encI) := by
  refine own_mk ?_ (by rw [encI_flat, List.length_map]; exact h)
  intro r hr
  obtain ⟨x, _, rfl⟩ := List.mem_map.1 hr
  rfl
/-- What a call leaves that turns a slice of the call's own in its place. -/
def TurnPost (E : TypeId) (zs : List Int) (v : Value) (B b0 : Nat) (w0 : World) (e : Ending) (w' : World) : Prop := e = .returned (.tuple #[]) ∧ Own w' B E 1 v (zs.map encI) ∧ Below b0 w0 w'
theorem sort_own (zs : List Int) (v : Value) (w : World) (B E : Nat) (hz : zs.length ≤ 1000000) (h : Own w B E 1 v (zs.map encI)) (b0 : Nat) (w0 : World) (hb0 : b0 ≤ B) (hb : Below b0 w0 w) :
    Calls Try.prog 82 #[v] w (TurnPost E (zs.mergeSort fun x y => decide (x ≤ y)) v B b0 w0) := by
  have h1 := own_ints h
  by_cases hv : v = .slice none 0 0
  · subst hv
    have hz0 : zs = [] := by
      rcases h1.2 with ⟨_, h0⟩ | ⟨g, cap, cur, e0, _⟩
      · exact List.eq_nil_of_length_eq_zero h0
      · cases e0
    subst hz0
    refine (slices_Sort_int_none none 0 w).mono ?_
    rintro e w' ⟨rfl, rfl⟩
    exact ⟨rfl, by simpa using h, hb⟩
  · obtain ⟨g, cap, rfl, hbg, hg, hnc, hcm, hl, hH⟩ := Lib.holds_of_ownsRow (zs := zs) h1 hv
    refine (slices_Sort_int g 0 cap zs w hH hg (by omega)).mono ?_
    rintro e w' ⟨rfl, n, os, rfl⟩
    refine ⟨rfl, ints_own ?_, hb.grown (grownBy_sortedI _) (by omega) (fun j hj => by cases hj; omega)⟩
    rcases h1.2 with ⟨e0, _⟩ | ⟨g', cap', cur, e0, h2, h3, h4, h5, h6, h7⟩
    · cases e0
    · cases e0
      have := ownsRow_sortedI (n := n) (os := os) (ts := zs.mergeSort fun x y => decide (x ≤ y)) (ss := zs) (List.length_mergeSort _) h2 h3 h4 h5 h6
      rw [List.length_mergeSort]
      exact this
def CutPost (E : TypeId) (zs : List Int) (B b0 : Nat) (w0 : World) (e : Ending) (w' : World) : Prop := ∃ v, e = .returned v ∧ Own w' B E 1 v (zs.map encI) ∧ Below b0 w0 w'
theorem compact_own (zs : List Int) (v : Value) (w : World) (B E : Nat) (hz : zs.length ≤ 1000000) (h : Own w B E 1 v (zs.map encI)) (b0 : Nat) (w0 : World) (hb0 : b0 ≤ B) (hb : Below b0 w0 w) :
    Calls Try.prog 83 #[v] w (CutPost E (Lib.compact zs) B b0 w0) := by
  have h1 := own_ints h
  by_cases hv : v = .slice none 0 0
  · subst hv
    have hz0 : zs = [] := by
      rcases h1.2 with ⟨_, h0⟩ | ⟨g, cap, cur, e0, _⟩
      · exact List.eq_nil_of_length_eq_zero h0
      · cases e0
    subst hz0
    refine (slices_Compact_int_empty none 0 w).mono ?_
    rintro e w' ⟨rfl, rfl⟩
    exact ⟨_, rfl, by rw [compact_nil]; exact Own.nil, hb⟩
  · obtain ⟨g, cap, rfl, hbg, hg, hnc, hcm, hl, hH⟩ := Lib.holds_of_ownsRow (zs := zs) h1 hv
    refine (slices_Compact_int g 0 cap zs w hH (by omega) (by omega)).mono ?_
    rintro e w' ⟨rfl, q, rfl⟩
    have hcl := Lib.compact_length_le zs
    refine ⟨_, rfl, ints_own ?_, Lib.below_putRow hb (by omega)⟩
    have := Lib.ownsRow_putRow (q := q) (ys := Lib.compact zs ++ List.replicate (zs.length - (Lib.compact zs).length) 0) (k := (Lib.compact zs).length) h1 (by simp; omega) hcl
    rw [List.take_left] at this
    exact this
set_option maxHeartbeats 3200000 in
theorem NosOf_i (l : List DWant) (v : Value) (w : World) (hl : l.length ≤ 1000000000) (h : Sl w v 6 (l.map DWant.enc)) (b : Bool) (hb : goodFilter l = b) (r : List Int) (hr : nosR l = r) :
    Calls Try.prog 35 #[.agg #[v]] w (SlbPost 3 1 (r.map encI) b w) := by
  have cg := hd (fun w' (hbb : Below w.heap.size w w') => GoodFilter_i l v w' (by omega) (h.mono hbb) b hb)
  obtain ⟨a1, c1, rfl, hrr⟩ := h
  simp only [List.length_map] at cg ⊢
  cases b with
  | false =>
    have hrn := hd (show r = [] by rw [← hr, nosR, if_neg (by rw [hb]; simp)])
    clear hr hb hrr
    go_enter Try.func35, Try.ntmps35
    go_wp2_with fail
    refine (cg.out _ (below_a1 _)).mono ?_
    rintro e w2 ⟨rfl, hb2⟩
    have hB := hd ((below_a1 w).next hb2)
    clear hb2
    go_wp2_with fail
    go_ret2
    exact ⟨_, none, rfl, by rw [hrn.out]; exact OwnR.nil, hB.out⟩
  | true =>
    have hrn := hd (show r = Lib.compact ((nosOf l).mergeSort fun x y => decide (x ≤ y)) by rw [← hr, nosR, if_pos hb, nos_same hb])
    have hl20 := (good_len hb).2
    clear hr hb
    replace hrr := hd hrr
    obtain ⟨i0, hi, hz0, hz1, hz2⟩ := info_parts infoInt
    have Hi := hd hi; have Hz0 := hd hz0; have Hz1 := hd hz1; have Hz2 := hd hz2
    clear hi hz0 hz1 hz2
    go_enter Try.func35, Try.ntmps35
    go_wp2_with fail
    refine (cg.out _ (below_a1 _)).mono ?_
    rintro e w2 ⟨rfl, hb2⟩
    have q := keepCell hb2 (show World.cell? _ ⟨w.heap.size, 0, none⟩ = some (.slice a1 l.length c1) by go_simp)
    have hB := hd ((below_a1 w).next hb2)
    have hz2 : w.heap.size ≤ w2.heap.size := hB.out.size
    have hq3 := hd (keepCell (below_a1 w2 (a := .cells #[] 3)) q)
    have ho3 := hd ((own_made w2 3 1).weaken hz2)
    have hB3 := hd (hB.out.next (below_a1 w2 (a := .cells #[] 3)))
    clear hb2
    go_upto_region 4 with (fail)
    generalize w2.alloc (.cells #[] 3) = W3 at *
    have q3 := hq3.out
    clear q
    go_wp2_with fail
    go_loopw [4, 14] (fun o i wr => ∃ k : Nat, k ≤ l.length ∧ i = .int .i64 k ∧ Hd (Own wr w.heap.size 3 1 o ((nosOf (l.take k)).map encI)) ∧ Hd (Below w.heap.size w wr)) (fun _ i _ => l.length - (intOf i).toNat)
    case atStart => exact ⟨0, Nat.zero_le _, rfl, ho3.out, hB3.out⟩
    case round =>
      obtain ⟨k, hk, rfl, hown, hbl⟩ := hrel
      obtain ⟨wo, rfl⟩ : ∃ wo : World, wo = wr := ⟨_, rfl⟩
      by_cases hlt : k < l.length
      · have hltI : (k : Int) < (l.length : Int) := by omega
        obtain ⟨b1, o1, rfl, C1⟩ := rows_at hrr.out (k := k) (by rw [List.length_map]; omega)
        obtain ⟨f0, f1, f2, f3, f4, f5⟩ := Cells.rowWant l k hlt (C1.mono hbl.out)
        have hpos := hd (fun h => nosOf_pos hlt h)
        have hneg := hd (fun h => nosOf_neg hlt h)
        have hpl := nosOf_len (l.take k)
        rw [List.length_take] at hpl
        have hpl2 : (nosOf (l.take k)).length ≤ 1000000 := by omega
        clear hpl
        generalize l[k] = x at *
        have hb4 := hd (hbl.out.next (below_a1 wo (a := .cells #[.int .i64 x.kind, .int .i64 x.no, .int .i64 x.num, .string x.text, .int .i64 x.a, .int .i64 x.b] 125)))
        have ho4 := hd (hown.out.below (below_a1 wo (a := .cells #[.int .i64 x.kind, .int .i64 x.no, .int .i64 x.num, .string x.text, .int .i64 x.a, .int .i64 x.b] 125)))
        have hx4 := hd (show BoxN (wo.alloc (.cells #[.int .i64 x.kind, .int .i64 x.no, .int .i64 x.num, .string x.text, .int .i64 x.a, .int .i64 x.b] 125)) wo.heap.size x.enc from BoxN.new wo x.enc _)
        go_upto_region 7 with (fail)
        have p1 := hx4.out.1 1 _ rfl
        generalize wo.alloc (.cells #[.int .i64 x.kind, .int .i64 x.no, .int .i64 x.num, .string x.text, .int .i64 x.a, .int .i64 x.b] 125) = w4 at *
        have hsz4 := hb4.out.size
        clear f0 f1 f2 f3 f4 f5 hx4 q3
        by_cases hp : 0 < x.no
        · have hst := hd (hpos.out hp)
          go_wp2_with (at_builtin; refine wpList_appOwn rfl (.tmp 21) (.tmp 24) 63 rfl w.heap.size 3 i0 _ 1 8 Try.underlying63 Hi.out Hz0.out Hz1.out Hz2.out rfl (by decide) _ ((nosOf (l.take k)).map encI) [encI x.no] rfl (ho4.out.below (below_a1 _)) _ 1 1 rfl rfl (one_row rfl) (cells_new _ _ _) (encI_one [x.no]) (by simp only [List.length_map]; omega) (by decide) (by first | omega | exact Nat.le_refl _ | (simp; done) | (simp; omega)) ?_; intro v5 w5 ho5 hga hva; have hb5 := hd ((hb4.out.next (below_a1 _)).grown hga (by first | omega | exact Nat.le_refl _ | (simp; done) | (simp; omega)) (fun g hg => (ho4.out.lt g hg).1)); replace ho5 := hd (own_snoc ho5); clear hga hva)
          go_roundw
          case rel => exact ⟨k + 1, by omega, by go_num, by rw [hst.out]; exact ho5.out, hb5⟩
          case measure => simp [intOf]; omega
        · have hst := hd (hneg.out hp)
          go_wp2_with fail
          go_roundw
          case rel => exact ⟨k + 1, by omega, by go_num, by rw [hst.out]; exact ho4.out, hb4⟩
          case measure => simp [intOf]; omega
      · have hltI : ¬ (k : Int) < (l.length : Int) := by omega
        obtain rfl : k = l.length := by omega
        rw [List.take_length] at hown
        have hpl := nosOf_len l
        have hso := hd (sort_own (nosOf l) _ wo w.heap.size 3 (by omega) hown.out w.heap.size w (Nat.le_refl _) hbl.out)
        have hsl : ((nosOf l).mergeSort fun x y => decide (x ≤ y)).length ≤ 1000000 := by rw [List.length_mergeSort]; omega
        generalize (nosOf l).mergeSort (fun x y => decide (x ≤ y)) = S at *
        clear q3 hown
        go_wp2_with fail
        refine hso.out.mono ?_
        rintro e w5 ⟨rfl, ho5, hb5⟩
        have hco := hd (compact_own S _ w5 w.heap.size 3 hsl ho5 w.heap.size w (Nat.le_refl _) hb5)
        clear ho5 hb5 hso
        go_wp2_with fail
        refine hco.out.mono ?_
        rintro e w6 ⟨v6, rfl, ho6, hb6⟩
        rw [← hrn.out] at ho6
        replace ho6 := hd ho6
        replace hb6 := hd hb6
        go_wp2_with fail
        go_ret2
        exact ⟨v6, _, rfl, ho6.out.r, hb6.out⟩
set_option maxHeartbeats 6400000 in
theorem NosOf_s (l : List DWant) (v : Value) (w : World) (hl : l.length ≤ 1000000000) (h : Sl w v 6 (l.map DWant.enc)) (b : Bool) (hb : goodFilter l = b) (r : List Int) (hr : nosR l = r) :
    Calls Try.prog 33 #[.agg #[v]] w (SlbPost 3 1 (r.map encI) b w) := by
  have cg := hd (fun w' (hbb : Below w.heap.size w w') => GoodFilter_s l v w' (by omega) (h.mono hbb) b hb)
  obtain ⟨a1, c1, rfl, hrr⟩ := h
  simp only [List.length_map] at cg ⊢
  cases b with
  | false =>
    have hrn := hd (show r = [] by rw [← hr, nosR, if_neg (by rw [hb]; simp)])
    clear hr hb hrr
    go_enter Try.func33, Try.ntmps33
    go_wp2_with fail
    refine (cg.out _ (below_a1 _)).mono ?_
    rintro e w2 ⟨rfl, hb2⟩
    have hB := hd ((below_a1 w).next hb2)
    clear hb2
    go_wp2_with fail
    go_ret2
    exact ⟨_, none, rfl, by rw [hrn.out]; exact OwnR.nil, hB.out⟩
  | true =>
    have hrn := hd (show r = nosTo l 30 by rw [← hr, nosR, if_pos hb])
    have hl20 := (good_len hb).2
    clear hr hb
    replace hrr := hd hrr
    obtain ⟨i0, hi, hz0, hz1, hz2⟩ := info_parts infoInt
    have Hi := hd hi; have Hz0 := hd hz0; have Hz1 := hd hz1; have Hz2 := hd hz2
    clear hi hz0 hz1 hz2
    go_enter Try.func33, Try.ntmps33
    go_wp2_with fail
    refine (cg.out _ (below_a1 _)).mono ?_
    rintro e w2 ⟨rfl, hb2⟩
    have q := hd (keepCell hb2 (show World.cell? _ ⟨w.heap.size, 0, none⟩ = some (.slice a1 l.length c1) by go_simp))
    have hB := hd ((below_a1 w).next hb2)
    have hz2 : w.heap.size + 1 ≤ w2.heap.size := by have := hb2.size; simp at this; omega
    clear hb2
    go_wp2_with fail
    go_loopw [4, 5] (fun o i wr => ∃ n : Nat, n ≤ 30 ∧ i = .int .i64 ((n : Int) + 1) ∧ Hd (Own wr w2.heap.size 3 1 o ((nosTo l n).map encI)) ∧ Hd (Below w2.heap.size w2 wr)) (fun _ i _ => 40 - (intOf i).toNat)
    case atStart => exact ⟨0, by omega, by go_num, Own.nil, Below.refl _ _⟩
    case round =>
      obtain ⟨n, hn, rfl, hown, hbl⟩ := hrel
      obtain ⟨wo, rfl⟩ : ∃ wo : World, wo = wr := ⟨_, rfl⟩
      by_cases hlt : n < 30
      · have hltI : (n : Int) + 1 ≤ 30 := by omega
        have q3 := keepCell hbl.out q.out
        have hwn : IntKind.i64.wrap ((n : Int) + 1 + 1) = ((n + 1 : Nat) : Int) + 1 := by rw [IntWalk.i64_in _ (by omega)]; omega
        go_wp2_with fail
        clear q3
        go_loopw [4, 18] (fun o i wr => ∃ k : Nat, k ≤ l.length ∧ i = .int .i64 k ∧ Hd (Own wr w2.heap.size 3 1 o ((nosIn l n k).map encI)) ∧ Hd (Below w2.heap.size w2 wr)) (fun _ i _ => l.length - (intOf i).toNat)
        case atStart => exact ⟨0, Nat.zero_le _, rfl, by rw [nosIn_zero]; exact hown.out, hbl.out⟩
        case round =>
          obtain ⟨k, hk, rfl, hown2, hbl2⟩ := hrel
          obtain ⟨wp, rfl⟩ : ∃ wp : World, wp = wr := ⟨_, rfl⟩
          by_cases hlt2 : k < l.length
          · have hltJ : (k : Int) < (l.length : Int) := by omega
            obtain ⟨b1, o1, rfl, C1⟩ := rows_at hrr.out (k := k) (by rw [List.length_map]; omega)
            obtain ⟨f0, f1, f2, f3, f4, f5⟩ := Cells.rowWant l k hlt2 (C1.mono (hB.out.next (hbl2.out.mono (by omega))))
            have hskip := hd (fun h => nosIn_skip (n := n) hlt2 h)
            have hold := hd (fun h => nosIn_old (n := n) hlt2 h)
            have hnew := hd (fun h h2 => nosIn_new (n := n) hlt2 h h2)
            have hpl := nosIn_len l n k (by omega)
            obtain ⟨Q, hQ⟩ : ∃ Q, nosIn l n k = Q := ⟨_, rfl⟩
            rw [hQ] at hown2 hskip hold hnew hpl
            obtain ⟨p, hp⟩ : ∃ p, hasB Q ((n : Int) + 1) = p := ⟨_, rfl⟩
            have c3 := hd (fun (v : Value) (w' : World) (h : Sl w' v 1 (Q.map encI)) => has_s Q ((n : Int) + 1) v w' (by omega) h p hp)
            replace hp := hd hp
            replace hQ := hd hQ
            generalize l[k] = x at *
            have hb4 := hd (hbl2.out.next (below_a1 wp (a := .cells #[.int .i64 x.kind, .int .i64 x.no, .int .i64 x.num, .string x.text, .int .i64 x.a, .int .i64 x.b] 125)))
            have ho4 := hd (hown2.out.below (below_a1 wp (a := .cells #[.int .i64 x.kind, .int .i64 x.no, .int .i64 x.num, .string x.text, .int .i64 x.a, .int .i64 x.b] 125)))
            have hx4 := hd (show BoxN (wp.alloc (.cells #[.int .i64 x.kind, .int .i64 x.no, .int .i64 x.num, .string x.text, .int .i64 x.a, .int .i64 x.b] 125)) wp.heap.size x.enc from BoxN.new wp x.enc _)
            go_upto_region 10 with (fail)
            have p1 := hx4.out.1 1 _ rfl
            generalize wp.alloc (.cells #[.int .i64 x.kind, .int .i64 x.no, .int .i64 x.num, .string x.text, .int .i64 x.a, .int .i64 x.b] 125) = w4 at *
            have hsz4 := hb4.out.size
            clear f0 f1 f2 f3 f4 f5 hx4
            by_cases hx : x.no = (n : Int) + 1
            · have hxb : (x.no == (n : Int) + 1) = true := by simpa using hx
              go_wp2_with fail
              refine (c3.out _ _ ho4.out.sl).mono ?_
              rintro e w5 ⟨rfl, rfl⟩
              cases p with
              | true =>
                have hst := hd (hold.out hp.out)
                clear hskip hold hnew hp hQ hxb hx
                go_wp2_with fail
                go_roundw
                case rel => exact ⟨k + 1, by omega, by go_num, by rw [hst.out]; exact ho4.out, hb4⟩
                case measure => simp [intOf]; omega
              | false =>
                have hst := hd (hnew.out hx hp.out)
                clear hskip hold hnew hp hQ hxb hx
                go_wp2_with (at_builtin; refine wpList_appOwn rfl (.tmp 32) (.tmp 34) 63 rfl w2.heap.size 3 i0 _ 1 8 Try.underlying63 Hi.out Hz0.out Hz1.out Hz2.out rfl (by decide) _ ((Q).map encI) [encI ((n : Int) + 1)] rfl (ho4.out.below (below_a1 _)) _ 1 1 rfl rfl (one_row rfl) (cells_new _ _ _) (encI_one [((n : Int) + 1)]) (by simp only [List.length_map]; omega) (by decide) (by first | omega | exact Nat.le_refl _ | (simp; done) | (simp; omega)) ?_; intro v5 w5 ho5 hga hva; have hb5 := hd ((hb4.out.next (below_a1 _)).grown hga (by first | omega | exact Nat.le_refl _ | (simp; done) | (simp; omega)) (fun g hg => (ho4.out.lt g hg).1)); replace ho5 := hd (own_snoc ho5); clear hga hva)
                go_roundw
                case rel => exact ⟨k + 1, by omega, by go_num, by rw [hst.out]; exact ho5.out, hb5⟩
                case measure => simp [intOf]; omega
            · have hxb : (x.no == (n : Int) + 1) = false := by simpa using hx
              have hst := hd (hskip.out hx)
              clear hskip hold hnew hp hQ hx
              go_wp2_with fail
              go_roundw
              case rel => exact ⟨k + 1, by omega, by go_num, by rw [hst.out]; exact ho4.out, hb4⟩
              case measure => simp [intOf]; omega
          · have hltJ : ¬ (k : Int) < (l.length : Int) := by omega
            obtain rfl : k = l.length := by omega
            rw [nosIn_end] at hown2
            go_wp2_with fail
            go_roundw
            case rel => exact ⟨n + 1, by omega, by go_num, hown2.out, hbl2⟩
            case measure => simp [intOf]; omega
      · have hltI : ¬ (n : Int) + 1 ≤ 30 := by omega
        obtain rfl : n = 30 := by omega
        go_wp2_with fail
        go_ret2
        rw [hrn.out]
        exact ⟨_, _, rfl, (hown.out.weaken (by omega)).r, hB.out.next (hbl.out.mono (by omega))⟩
end Go.Proofs.Ytbjilpemckoioaa
